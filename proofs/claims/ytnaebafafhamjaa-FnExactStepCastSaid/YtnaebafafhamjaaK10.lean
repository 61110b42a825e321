/- Texts of the proof, one behind another. -/
import Derived.Test.YtnaebafafhamjaaK6
import Derived.Test.YtnaebafafhamjaaK7
import Derived.Test.YtnaebafafhamjaaK9
set_option linter.unusedSimpArgs false
set_option linter.unusedVariables false
/- Steps of terms with casts: the rules, in the reference. On shadows. -/
namespace Go.Proofs.Ytnaebafafhamjaa
open Go.RowKit Go.Proofs.Sh Go.Proofs.Grad
set_option maxRecDepth 100000
set_option maxHeartbeats 8000000
theorem sCast5 (t : Tm) (f y : Ty) (l : Int) (hf : f.size < 1000) (hy : y.size < 1000) : AFn Try.prog 109 [.agg (teC t), .agg (tyC f), .agg (tyC y), .one (.sc (.int .i64 l))] (.agg (teC (.mk 14 ByteArray.empty 0 y f l [t]))) := by
  have h1 := l1Copy 1000 (by omega) f hf
  have h2 := l1Copy 1000 (by omega) y hy
  refine fn_in ?_; refine acl_in Try.func109 rfl isfn_109 (Nat.le_of_ble_eq_true rfl) (fun R hR => ?_); rw [Try.results109] at hR; refine wg_run ?_; (simp only [Try.f109, go_sem])
  repeat' (first | (first | (((first | refine sp1 ?_ ?_ | refine sp2 ?_ ?_ | refine sp3 ?_ ?_ | refine sp4 ?_ ?_ | refine sp5 ?_ ?_ | refine sp6 ?_ ?_ | refine sp7 ?_ ?_) <;> intro hb) <;> (simp only [go_sem, hb])) | ((first | refine wm_done ?_ | refine wt_done ?_ | refine wg_run ?_ | refine fk ?_ ?_) <;> (simp only [go_sem]))) | (first | (refine tr (.op 0 false (.op 2 false (.op 4 false (.op 5 false (.fork 1 false (.fork 3 false (.op 6 false (.op 7 false (.op 8 true .nil))) (.op 6 false (.op 3 false (.op 7 false (.op 8 true .nil))))) (.op 6 false (.op 1 false (.op 3 false (.op 7 false (.op 8 true .nil)))))))))) [] follows ?_; (simp only [go_sem])) | fail) | ((first | refine mx 6 [] follows ?_ | refine mx 5 [] follows ?_ | refine mx 4 [] follows ?_ | refine mx 3 [] follows ?_ | refine mx 2 [] follows ?_ | refine mx 1 [] follows ?_ | refine mx 0 [] follows ?_ | fail); (simp only [go_sem])) | (first | refine cd (hc := h1) (hK := ?_) | refine cm (hc := h1) (hK := ?_) | refine ct (hc := h1) (hK := ?_)); (simp only [go_sem]) | (first | refine cd (hc := h2) (hK := ?_) | refine cm (hc := h2) (hK := ?_) | refine ct (hc := h2) (hK := ?_)); (simp only [go_sem]) | fail)
  all_goals (refine hR _ ?_; refine rat [] (hK := ⟨rfl, rfl⟩))
def srS (r : SR) : AV := .tup [.agg (teC r.tm), .one (.sc (.int .i64 r.code)), .one (.sc (.int .i64 r.lab))]
theorem T.any_small : T.any.ty.size < 1000 := by simp [T.ty, Ty.size, Ty.sizes]
theorem T.ground_small {t : T} (h : t.depth ≤ 4) : t.ground.ty.size < 1000 := T.ty_small (Nat.le_trans (T.ground_depth t) h)
theorem sConvert (s t : T) (l : Int) (v : E) (h : (E.cast s t l v).wf = true) : AFn Try.prog 156 [.agg (teC (E.cast s t l v).tm)] (srS (ruleCast s t l v)) := by
  simp only [E.wf, Bool.and_eq_true, decide_eq_true_eq] at h
  have gs := l1Ground s
  have gt := l1Ground t
  have hig := sGround t (by have := T.ty_small h.1.2; rw [T.ty_size] at this; omega)
  rw [T.isG_ty] at hig
  have c1 := sCast5 v.tm s.ty s.ground.ty l (T.ty_small h.1.1) (T.ground_small h.1.1)
  have c2 := sCast5 (.mk 14 ByteArray.empty 0 s.ground.ty s.ty l [v.tm]) s.ground.ty t.ty l (T.ground_small h.1.1) (T.ty_small h.1.2)
  have d1 := sCast5 v.tm s.ty t.ground.ty l (T.ty_small h.1.1) (T.ground_small h.1.2)
  have d2 := sCast5 (.mk 14 ByteArray.empty 0 t.ground.ty s.ty l [v.tm]) t.ground.ty t.ty l (T.ground_small h.1.2) (T.ty_small h.1.2)
  unfold ruleCast
  cases e1 : (s.ty.kind == t.ty.kind)
  · cases e2 : (t.ty.kind == 1)
    · have hs : s = .any := by
        have hc := h.2.1
        revert e1 e2 hc
        cases s <;> cases t <;> simp [T.ty, Ty.kind, T.cons]
      subst hs
      have e1' : ((1 : Int) == t.ty.kind) = false := e1
      cases e3 : t.isG
      · rw [e3] at hig
        simp only [srS, SR.tm, SR.code, SR.lab]
        simp only [E.tm, T.ty] at e1 d1 d2 ⊢
        refine fn_in ?_; refine acl_in Try.func156 rfl isfn_156 (Nat.le_of_ble_eq_true rfl) (fun R hR => ?_); rw [Try.results156] at hR; refine wg_run ?_; (simp only [Try.f156, go_sem, e1, e1', e2])
        repeat' (first | (first | (simp only [go_sem, e1, e1', e2, int_bne]) | (((first | refine sp1 ?_ ?_ | refine sp2 ?_ ?_ | refine sp3 ?_ ?_ | refine sp4 ?_ ?_ | refine sp5 ?_ ?_ | refine sp6 ?_ ?_ | refine sp7 ?_ ?_) <;> intro hb) <;> (simp only [go_sem, hb, e1, e1', e2, int_bne])) | ((first | refine wm_done ?_ | refine wt_done ?_ | refine wg_run ?_ | refine fk ?_ ?_) <;> (simp only [go_sem, e1, e1', e2, int_bne]))) | (first | (refine tr (.op 0 false (.op 1 false (.op 2 false (.op 3 false (.op 4 false (.op 5 false .nil)))))) [1] follows ?_; (simp only [go_sem, e1, e1', e2, int_bne])) | fail) | ((first | refine mx 6 [] follows ?_ | refine mx 5 [] follows ?_ | refine mx 4 [] follows ?_ | refine mx 3 [] follows ?_ | refine mx 2 [] follows ?_ | refine mx 1 [] follows ?_ | refine mx 0 [] follows ?_ | fail); (simp only [go_sem, e1, e1', e2, int_bne])) | (first | refine cd (hc := gt) (hK := ?_) | refine cm (hc := gt) (hK := ?_) | refine ct (hc := gt) (hK := ?_)); (simp only [go_sem]) | (first | refine cd (hc := hig) (hK := ?_) | refine cm (hc := hig) (hK := ?_) | refine ct (hc := hig) (hK := ?_)); (simp only [go_sem]) | (first | refine cd (hc := d1) (hK := ?_) | refine cm (hc := d1) (hK := ?_) | refine ct (hc := d1) (hK := ?_)); (simp only [go_sem]) | (first | refine cd (hc := d2) (hK := ?_) | refine cm (hc := d2) (hK := ?_) | refine ct (hc := d2) (hK := ?_)); (simp only [go_sem]) | fail)
        all_goals (refine hR _ ?_; refine rat [] (hK := ⟨rfl, rfl⟩))
      · rw [e3] at hig
        cases v with
        | cast s' t' l' w =>
          have h' := h.2.2.2
          simp only [E.wf, Bool.and_eq_true, decide_eq_true_eq] at h'
          have hi := sInj (E.cast s' t' l' w).tm s' rfl (by have := T.ty_small h'.1.1; rw [T.ty_size] at this; omega)
          simp only [E.tm, Tm.kind, Tm.type, Tm.frm] at hi
          rw [injB_T] at hi
          simp only [ruleOut]
          cases e4 : injT s' t'
          · rw [e4] at hi
            simp only [srS, SR.tm, SR.code, SR.lab]
            simp only [E.tm, T.ty] at e1 ⊢
            refine fn_in ?_; refine acl_in Try.func156 rfl isfn_156 (Nat.le_of_ble_eq_true rfl) (fun R hR => ?_); rw [Try.results156] at hR; refine wg_run ?_; (simp only [Try.f156, go_sem, e1, e1', e2])
            repeat' (first | (first | (simp only [go_sem, e1, e1', e2, int_bne]) | (((first | refine sp1 ?_ ?_ | refine sp2 ?_ ?_ | refine sp3 ?_ ?_ | refine sp4 ?_ ?_ | refine sp5 ?_ ?_ | refine sp6 ?_ ?_ | refine sp7 ?_ ?_) <;> intro hb) <;> (simp only [go_sem, hb, e1, e1', e2, int_bne])) | ((first | refine wm_done ?_ | refine wt_done ?_ | refine wg_run ?_ | refine fk ?_ ?_) <;> (simp only [go_sem, e1, e1', e2, int_bne]))) | (first | (refine tr (.op 0 false (.op 1 false (.op 2 false (.op 3 false (.op 4 false (.op 5 false .nil)))))) [1] follows ?_; (simp only [go_sem, e1, e1', e2, int_bne])) | fail) | ((first | refine mx 6 [] follows ?_ | refine mx 5 [] follows ?_ | refine mx 4 [] follows ?_ | refine mx 3 [] follows ?_ | refine mx 2 [] follows ?_ | refine mx 1 [] follows ?_ | refine mx 0 [] follows ?_ | fail); (simp only [go_sem, e1, e1', e2, int_bne])) | (first | refine cd (hc := hig) (hK := ?_) | refine cm (hc := hig) (hK := ?_) | refine ct (hc := hig) (hK := ?_)); (simp only [go_sem]) | (first | refine cd (hc := hi) (hK := ?_) | refine cm (hc := hi) (hK := ?_) | refine ct (hc := hi) (hK := ?_)); (simp only [go_sem]) | fail)
            all_goals (refine hR _ ?_; refine rat [] (hK := ⟨rfl, rfl⟩))
          · rw [e4] at hi
            cases e6 : (s'.ty.kind == t.ty.kind)
            all_goals
              simp only [srS, SR.tm, SR.code, SR.lab]
              simp only [E.tm, T.ty] at e1 ⊢
              refine fn_in ?_; refine acl_in Try.func156 rfl isfn_156 (Nat.le_of_ble_eq_true rfl) (fun R hR => ?_); rw [Try.results156] at hR; refine wg_run ?_; (simp only [Try.f156, go_sem, e1, e1', e2, e6])
              repeat' (first | (first | (simp only [go_sem, e1, e1', e2, e6, int_bne]) | (((first | refine sp1 ?_ ?_ | refine sp2 ?_ ?_ | refine sp3 ?_ ?_ | refine sp4 ?_ ?_ | refine sp5 ?_ ?_ | refine sp6 ?_ ?_ | refine sp7 ?_ ?_) <;> intro hb) <;> (simp only [go_sem, hb, e1, e1', e2, e6, int_bne])) | ((first | refine wm_done ?_ | refine wt_done ?_ | refine wg_run ?_ | refine fk ?_ ?_) <;> (simp only [go_sem, e1, e1', e2, e6, int_bne]))) | (first | (refine tr (.op 0 false (.op 1 false (.op 2 false (.op 3 false (.op 4 false (.op 5 false .nil)))))) [1] follows ?_; (simp only [go_sem, e1, e1', e2, e6, int_bne])) | fail) | ((first | refine mx 6 [] follows ?_ | refine mx 5 [] follows ?_ | refine mx 4 [] follows ?_ | refine mx 3 [] follows ?_ | refine mx 2 [] follows ?_ | refine mx 1 [] follows ?_ | refine mx 0 [] follows ?_ | fail); (simp only [go_sem, e1, e1', e2, e6, int_bne])) | (first | refine cd (hc := hig) (hK := ?_) | refine cm (hc := hig) (hK := ?_) | refine ct (hc := hig) (hK := ?_)); (simp only [go_sem]) | (first | refine cd (hc := hi) (hK := ?_) | refine cm (hc := hi) (hK := ?_) | refine ct (hc := hi) (hK := ?_)); (simp only [go_sem]) | fail)
              all_goals (refine hR _ ?_; refine rat [] (hK := ⟨rfl, rfl⟩))
        | _ =>
          simp only [ruleOut]
          simp only [srS, SR.tm, SR.code, SR.lab]
          simp only [E.tm, nd, T.ty] at e1 ⊢
          refine fn_in ?_; refine acl_in Try.func156 rfl isfn_156 (Nat.le_of_ble_eq_true rfl) (fun R hR => ?_); rw [Try.results156] at hR; refine wg_run ?_; (simp only [Try.f156, go_sem, e1, e1', e2])
          repeat' (first | (first | (simp only [go_sem, e1, e1', e2, int_bne]) | (((first | refine sp1 ?_ ?_ | refine sp2 ?_ ?_ | refine sp3 ?_ ?_ | refine sp4 ?_ ?_ | refine sp5 ?_ ?_ | refine sp6 ?_ ?_ | refine sp7 ?_ ?_) <;> intro hb) <;> (simp only [go_sem, hb, e1, e1', e2, int_bne])) | ((first | refine wm_done ?_ | refine wt_done ?_ | refine wg_run ?_ | refine fk ?_ ?_) <;> (simp only [go_sem, e1, e1', e2, int_bne]))) | (first | (refine tr (.op 0 false (.op 1 false (.op 2 false (.op 3 false (.op 4 false (.op 5 false .nil)))))) [1] follows ?_; (simp only [go_sem, e1, e1', e2, int_bne])) | fail) | ((first | refine mx 6 [] follows ?_ | refine mx 5 [] follows ?_ | refine mx 4 [] follows ?_ | refine mx 3 [] follows ?_ | refine mx 2 [] follows ?_ | refine mx 1 [] follows ?_ | refine mx 0 [] follows ?_ | fail); (simp only [go_sem, e1, e1', e2, int_bne])) | (first | refine cd (hc := hig) (hK := ?_) | refine cm (hc := hig) (hK := ?_) | refine ct (hc := hig) (hK := ?_)); (simp only [go_sem]) | (first | refine cd (hc := sInj0 _ rfl) (hK := ?_) | refine cm (hc := sInj0 _ rfl) (hK := ?_) | refine ct (hc := sInj0 _ rfl) (hK := ?_)); (simp only [go_sem]) | fail)
          all_goals (refine hR _ ?_; refine rat [] (hK := ⟨rfl, rfl⟩))
    · simp only [srS, SR.tm, SR.code, SR.lab]
      have ht : t = .any := by
        revert e2; cases t <;> simp [T.ty, Ty.kind]
      subst ht
      have e1' : (s.ty.kind == (1 : Int)) = false := e1
      simp only [E.tm, T.ty] at e1 c1 c2 ⊢
      refine fn_in ?_; refine acl_in Try.func156 rfl isfn_156 (Nat.le_of_ble_eq_true rfl) (fun R hR => ?_); rw [Try.results156] at hR; refine wg_run ?_; (simp only [Try.f156, go_sem, e1, e1', e2])
      repeat' (first | (first | (simp only [go_sem, e1, e1', e2, int_bne]) | (((first | refine sp1 ?_ ?_ | refine sp2 ?_ ?_ | refine sp3 ?_ ?_ | refine sp4 ?_ ?_ | refine sp5 ?_ ?_ | refine sp6 ?_ ?_ | refine sp7 ?_ ?_) <;> intro hb) <;> (simp only [go_sem, hb, e1, e1', e2, int_bne])) | ((first | refine wm_done ?_ | refine wt_done ?_ | refine wg_run ?_ | refine fk ?_ ?_) <;> (simp only [go_sem, e1, e1', e2, int_bne]))) | (first | (refine tr (.op 0 false (.op 1 false (.op 2 false (.op 3 false (.op 4 false (.op 5 false .nil)))))) [1] follows ?_; (simp only [go_sem, e1, e1', e2, int_bne])) | fail) | ((first | refine mx 6 [] follows ?_ | refine mx 5 [] follows ?_ | refine mx 4 [] follows ?_ | refine mx 3 [] follows ?_ | refine mx 2 [] follows ?_ | refine mx 1 [] follows ?_ | refine mx 0 [] follows ?_ | fail); (simp only [go_sem, e1, e1', e2, int_bne])) | (first | refine cd (hc := gs) (hK := ?_) | refine cm (hc := gs) (hK := ?_) | refine ct (hc := gs) (hK := ?_)); (simp only [go_sem]) | (first | refine cd (hc := c1) (hK := ?_) | refine cm (hc := c1) (hK := ?_) | refine ct (hc := c1) (hK := ?_)); (simp only [go_sem]) | (first | refine cd (hc := c2) (hK := ?_) | refine cm (hc := c2) (hK := ?_) | refine ct (hc := c2) (hK := ?_)); (simp only [go_sem]) | fail)
      all_goals (refine hR _ ?_; refine rat [] (hK := ⟨rfl, rfl⟩))
  · simp only [srS, SR.tm, SR.code, SR.lab]
    simp only [E.tm]
    refine fn_in ?_; refine acl_in Try.func156 rfl isfn_156 (Nat.le_of_ble_eq_true rfl) (fun R hR => ?_); rw [Try.results156] at hR; refine wg_run ?_; (simp only [Try.f156, go_sem, e1])
    repeat' (first | (first | (simp only [go_sem, e1, int_bne]) | (((first | refine sp1 ?_ ?_ | refine sp2 ?_ ?_ | refine sp3 ?_ ?_ | refine sp4 ?_ ?_ | refine sp5 ?_ ?_ | refine sp6 ?_ ?_ | refine sp7 ?_ ?_) <;> intro hb) <;> (simp only [go_sem, hb, e1, int_bne])) | ((first | refine wm_done ?_ | refine wt_done ?_ | refine wg_run ?_ | refine fk ?_ ?_) <;> (simp only [go_sem, e1, int_bne]))) | (first | (refine tr (.op 0 false (.op 1 false (.op 2 false (.op 3 false (.op 4 false (.op 5 false .nil)))))) [1] follows ?_; (simp only [go_sem, e1, int_bne])) | fail) | ((first | refine mx 6 [] follows ?_ | refine mx 5 [] follows ?_ | refine mx 4 [] follows ?_ | refine mx 3 [] follows ?_ | refine mx 2 [] follows ?_ | refine mx 1 [] follows ?_ | refine mx 0 [] follows ?_ | fail); (simp only [go_sem, e1, int_bne])) | fail)
    all_goals (refine hR _ ?_; refine rat [] (hK := ⟨rfl, rfl⟩))
theorem sNode (k : Int) (ks : List Tm) : AFn Try.prog 129 [.one (.sc (.int .i64 k)), .one (.sl (teR ks))] (.agg (teC (nd k ks))) := by
  refine fn_in ?_; refine acl_in Try.func129 rfl isfn_129 (Nat.le_of_ble_eq_true rfl) (fun R hR => ?_); rw [Try.results129] at hR; refine wg_run ?_; (simp only [Try.f129, go_sem])
  repeat' (first | (first | (((first | refine sp1 ?_ ?_ | refine sp2 ?_ ?_ | refine sp3 ?_ ?_ | refine sp4 ?_ ?_ | refine sp5 ?_ ?_ | refine sp6 ?_ ?_ | refine sp7 ?_ ?_) <;> intro hb) <;> (simp only [go_sem, hb])) | ((first | refine wm_done ?_ | refine wt_done ?_ | refine wg_run ?_ | refine fk ?_ ?_) <;> (simp only [go_sem]))) | ((first | refine mx 6 [] follows ?_ | refine mx 5 [] follows ?_ | refine mx 4 [] follows ?_ | refine mx 3 [] follows ?_ | refine mx 2 [] follows ?_ | refine mx 1 [] follows ?_ | refine mx 0 [] follows ?_ | fail); (simp only [go_sem])) | fail)
  all_goals (refine hR _ ?_; refine rat [] (hK := ⟨rfl, rfl⟩))
theorem sApply (a b : E) (ha : a.wf = true) (hb : b.wf = true) (hz : a.tm.size < 100000000) (hz2 : b.tm.size < 100000000) : AFn Try.prog 153 [.agg (teC a.tm), .agg (teC b.tm)] (srS (ruleApp a b)) := by
  cases a with
  | lam x t c =>
    simp only [E.wf, Bool.and_eq_true, decide_eq_true_eq] at ha
    simp only [E.tm, Tm.size, Tm.sizes] at hz
    have hs := sSubst x b hz2 c ha.2.2 (by omega)
    simp only [ruleApp, srS, SR.tm, SR.code, SR.lab]
    simp only [E.tm]
    refine fn_in ?_; refine acl_in Try.func153 rfl isfn_153 (Nat.le_of_ble_eq_true rfl) (fun R hR => ?_); rw [Try.results153] at hR; refine wg_run ?_; (simp only [Try.f153, go_sem])
    repeat' (first | (first | (((first | refine sp1 ?_ ?_ | refine sp2 ?_ ?_ | refine sp3 ?_ ?_ | refine sp4 ?_ ?_ | refine sp5 ?_ ?_ | refine sp6 ?_ ?_ | refine sp7 ?_ ?_) <;> intro hb) <;> (simp only [go_sem, hb])) | ((first | refine wm_done ?_ | refine wt_done ?_ | refine wg_run ?_ | refine fk ?_ ?_) <;> (simp only [go_sem]))) | (first | refine cd (hc := hs) (hK := ?_) | refine cm (hc := hs) (hK := ?_) | refine ct (hc := hs) (hK := ?_)); (simp only [go_sem]) | (first | (refine tr (.op 0 false (.op 1 false (.op 2 false (.op 3 false (.op 4 false (.op 5 false (.op 6 false (.op 7 false (.op 8 false (.op 9 false (.op 10 false (.op 11 false (.op 12 false (.op 13 false (.fork 14 true (.op 15 false (.op 16 true .nil)) (.op 15 false (.op 14 true (.op 16 true .nil)))))))))))))))))) [] follows ?_; (simp only [go_sem])) | (refine tr (.op 0 false (.op 1 false (.op 2 false (.op 3 false (.op 4 false (.fork 5 true (.fork 6 true (.op 7 false (.op 8 true .nil)) (.op 7 false (.op 6 true (.op 8 true .nil)))) (.op 7 false (.op 5 true (.op 6 true (.op 8 true .nil)))))))))) [] follows ?_; (simp only [go_sem])) | fail) | ((first | refine mx 6 [] follows ?_ | refine mx 5 [] follows ?_ | refine mx 4 [] follows ?_ | refine mx 3 [] follows ?_ | refine mx 2 [] follows ?_ | refine mx 1 [] follows ?_ | refine mx 0 [] follows ?_ | fail); (simp only [go_sem])) | fail)
    all_goals (refine hR _ ?_; refine rat [] (hK := ⟨rfl, rfl⟩))
  | cast s t l f =>
    simp only [E.wf, Bool.and_eq_true, decide_eq_true_eq] at ha
    have hp := sProxy (E.cast s t l f).tm
    simp only [E.tm, Tm.kind, Tm.type, Tm.frm] at hp
    rw [proxyB_T] at hp
    have hn := fun ks => sNode 6 ks
    have hw : IntKind.i64.wrap (0 - l) = -l := by have := lab_bd2 ha.2.2.1; rw [IntWalk.i64_in _ (by omega)]; omega
    have hd1 := ha.1.1
    have hd2 := ha.1.2
    cases s <;> cases t <;> simp only [proxyT, T.isFn, T.isPr, Bool.false_and, Bool.and_false, Bool.and_true, Bool.true_and, Bool.or_false, Bool.or_true, Bool.or_self] at hp
    case fn.fn s1 s2 t1 t2 =>
      simp only [T.depth] at hd1 hd2
      have c1 := sCast5 b.tm t1.ty s1.ty (-l) (T.ty_small (by omega)) (T.ty_small (by omega))
      have c2 := sCast5 (nd 6 [f.tm, .mk 14 ByteArray.empty 0 s1.ty t1.ty (-l) [b.tm]]) s2.ty t2.ty l (T.ty_small (by omega)) (T.ty_small (by omega))
      simp only [ruleApp, srS, SR.tm, SR.code, SR.lab]
      simp only [E.tm, nd, T.ty] at hp c2 ⊢
      refine fn_in ?_; refine acl_in Try.func153 rfl isfn_153 (Nat.le_of_ble_eq_true rfl) (fun R hR => ?_); rw [Try.results153] at hR; refine wg_run ?_; (simp only [Try.f153, go_sem, hw])
      repeat' (first | (first | (simp only [go_sem, hw, int_bne]) | (((first | refine sp1 ?_ ?_ | refine sp2 ?_ ?_ | refine sp3 ?_ ?_ | refine sp4 ?_ ?_ | refine sp5 ?_ ?_ | refine sp6 ?_ ?_ | refine sp7 ?_ ?_) <;> intro hb) <;> (simp only [go_sem, hb, hw, int_bne])) | ((first | refine wm_done ?_ | refine wt_done ?_ | refine wg_run ?_ | refine fk ?_ ?_) <;> (simp only [go_sem, hw, int_bne]))) | (first | (refine tr (.op 0 false (.op 1 false (.op 2 false (.op 3 false (.op 4 false (.op 5 false (.op 6 false (.op 7 false (.op 8 false (.op 9 false (.op 10 false (.op 11 false (.op 12 false (.op 13 false (.fork 14 true (.op 15 false (.op 16 true .nil)) (.op 15 false (.op 14 true (.op 16 true .nil)))))))))))))))))) [] follows ?_; (simp only [go_sem, hw, int_bne])) | (refine tr (.op 0 false (.op 1 false (.op 2 false (.op 3 false (.op 4 false (.fork 5 true (.fork 6 true (.op 7 false (.op 8 true .nil)) (.op 7 false (.op 6 true (.op 8 true .nil)))) (.op 7 false (.op 5 true (.op 6 true (.op 8 true .nil)))))))))) [] follows ?_; (simp only [go_sem, hw, int_bne])) | fail) | ((first | refine mx 6 [] follows ?_ | refine mx 5 [] follows ?_ | refine mx 4 [] follows ?_ | refine mx 3 [] follows ?_ | refine mx 2 [] follows ?_ | refine mx 1 [] follows ?_ | refine mx 0 [] follows ?_ | fail); (simp only [go_sem, hw, int_bne])) | (first | refine cd (hc := hp) (hK := ?_) | refine cm (hc := hp) (hK := ?_) | refine ct (hc := hp) (hK := ?_)); (simp only [go_sem]) | (first | refine cd (hc := c1) (hK := ?_) | refine cm (hc := c1) (hK := ?_) | refine ct (hc := c1) (hK := ?_)); (simp only [go_sem]) | (first | refine cd (hc := c2) (hK := ?_) | refine cm (hc := c2) (hK := ?_) | refine ct (hc := c2) (hK := ?_)); (simp only [go_sem]) | (first | refine cd (hc := hn [_, _]) (hK := ?_) | refine cm (hc := hn [_, _]) (hK := ?_) | refine ct (hc := hn [_, _]) (hK := ?_)); (simp only [go_sem]) | fail)
      all_goals (refine hR _ ?_; refine rat [] (hK := ⟨rfl, rfl⟩))
    all_goals
      simp only [ruleApp, srS, SR.tm, SR.code, SR.lab]
      simp only [E.tm, nd, T.ty] at hp ⊢
      refine fn_in ?_; refine acl_in Try.func153 rfl isfn_153 (Nat.le_of_ble_eq_true rfl) (fun R hR => ?_); rw [Try.results153] at hR; refine wg_run ?_; (simp only [Try.f153, go_sem, hw])
      repeat' (first | (first | (simp only [go_sem, hw, int_bne]) | (((first | refine sp1 ?_ ?_ | refine sp2 ?_ ?_ | refine sp3 ?_ ?_ | refine sp4 ?_ ?_ | refine sp5 ?_ ?_ | refine sp6 ?_ ?_ | refine sp7 ?_ ?_) <;> intro hb) <;> (simp only [go_sem, hb, hw, int_bne])) | ((first | refine wm_done ?_ | refine wt_done ?_ | refine wg_run ?_ | refine fk ?_ ?_) <;> (simp only [go_sem, hw, int_bne]))) | (first | (refine tr (.op 0 false (.op 1 false (.op 2 false (.op 3 false (.op 4 false (.op 5 false (.op 6 false (.op 7 false (.op 8 false (.op 9 false (.op 10 false (.op 11 false (.op 12 false (.op 13 false (.fork 14 true (.op 15 false (.op 16 true .nil)) (.op 15 false (.op 14 true (.op 16 true .nil)))))))))))))))))) [] follows ?_; (simp only [go_sem, hw, int_bne])) | (refine tr (.op 0 false (.op 1 false (.op 2 false (.op 3 false (.op 4 false (.fork 5 true (.fork 6 true (.op 7 false (.op 8 true .nil)) (.op 7 false (.op 6 true (.op 8 true .nil)))) (.op 7 false (.op 5 true (.op 6 true (.op 8 true .nil)))))))))) [] follows ?_; (simp only [go_sem, hw, int_bne])) | fail) | ((first | refine mx 6 [] follows ?_ | refine mx 5 [] follows ?_ | refine mx 4 [] follows ?_ | refine mx 3 [] follows ?_ | refine mx 2 [] follows ?_ | refine mx 1 [] follows ?_ | refine mx 0 [] follows ?_ | fail); (simp only [go_sem, hw, int_bne])) | (first | refine cd (hc := hp) (hK := ?_) | refine cm (hc := hp) (hK := ?_) | refine ct (hc := hp) (hK := ?_)); (simp only [go_sem]) | fail)
      all_goals (refine hR _ ?_; refine rat [] (hK := ⟨rfl, rfl⟩))
  | _ =>
    simp only [ruleApp, srS, SR.tm, SR.code, SR.lab]
    simp only [E.tm, nd]
    refine fn_in ?_; refine acl_in Try.func153 rfl isfn_153 (Nat.le_of_ble_eq_true rfl) (fun R hR => ?_); rw [Try.results153] at hR; refine wg_run ?_; (simp only [Try.f153, go_sem])
    repeat' (first | (first | (simp only [go_sem, int_bne]) | (((first | refine sp1 ?_ ?_ | refine sp2 ?_ ?_ | refine sp3 ?_ ?_ | refine sp4 ?_ ?_ | refine sp5 ?_ ?_ | refine sp6 ?_ ?_ | refine sp7 ?_ ?_) <;> intro hb) <;> (simp only [go_sem, hb, int_bne])) | ((first | refine wm_done ?_ | refine wt_done ?_ | refine wg_run ?_ | refine fk ?_ ?_) <;> (simp only [go_sem, int_bne]))) | (first | (refine tr (.op 0 false (.op 1 false (.op 2 false (.op 3 false (.op 4 false (.op 5 false (.op 6 false (.op 7 false (.op 8 false (.op 9 false (.op 10 false (.op 11 false (.op 12 false (.op 13 false (.fork 14 true (.op 15 false (.op 16 true .nil)) (.op 15 false (.op 14 true (.op 16 true .nil)))))))))))))))))) [] follows ?_; (simp only [go_sem, int_bne])) | (refine tr (.op 0 false (.op 1 false (.op 2 false (.op 3 false (.op 4 false (.fork 5 true (.fork 6 true (.op 7 false (.op 8 true .nil)) (.op 7 false (.op 6 true (.op 8 true .nil)))) (.op 7 false (.op 5 true (.op 6 true (.op 8 true .nil)))))))))) [] follows ?_; (simp only [go_sem, int_bne])) | fail) | ((first | refine mx 6 [] follows ?_ | refine mx 5 [] follows ?_ | refine mx 4 [] follows ?_ | refine mx 3 [] follows ?_ | refine mx 2 [] follows ?_ | refine mx 1 [] follows ?_ | refine mx 0 [] follows ?_ | fail); (simp only [go_sem, int_bne])) | (first | refine cd (hc := sProxy0 _ rfl) (hK := ?_) | refine cm (hc := sProxy0 _ rfl) (hK := ?_) | refine ct (hc := sProxy0 _ rfl) (hK := ?_)); (simp only [go_sem]) | fail)
    all_goals (refine hR _ ?_; refine rat [] (hK := ⟨rfl, rfl⟩))
theorem sPart (a : E) (ha : a.wf = true) (fs : Bool) : AFn Try.prog 155 [.one (.sc (.int .i64 (match fs with | true => 11 | false => 12))), .agg (teC a.tm)] (srS (match fs with | true => ruleFst a | false => ruleSnd a)) := by
  cases a with
  | cast s t l f =>
    simp only [E.wf, Bool.and_eq_true, decide_eq_true_eq] at ha
    have hp := sProxy (E.cast s t l f).tm
    simp only [E.tm, Tm.kind, Tm.type, Tm.frm] at hp
    rw [proxyB_T] at hp
    have hn := fun k ks => sNode k ks
    have hd1 := ha.1.1
    have hd2 := ha.1.2
    cases s <;> cases t <;> simp only [proxyT, T.isFn, T.isPr, Bool.false_and, Bool.and_false, Bool.and_true, Bool.true_and, Bool.or_false, Bool.or_true, Bool.or_self] at hp
    case pr.pr s1 s2 t1 t2 =>
      simp only [T.depth] at hd1 hd2
      have c1 := fun k => sCast5 (nd k [f.tm]) s1.ty t1.ty l (T.ty_small (by omega)) (T.ty_small (by omega))
      have c2 := fun k => sCast5 (nd k [f.tm]) s2.ty t2.ty l (T.ty_small (by omega)) (T.ty_small (by omega))
      cases fs
      all_goals
        simp only [ruleFst, ruleSnd, srS, SR.tm, SR.code, SR.lab]
        simp only [E.tm, nd, T.ty] at hp c1 c2 ⊢
        refine fn_in ?_; refine acl_in Try.func155 rfl isfn_155 (Nat.le_of_ble_eq_true rfl) (fun R hR => ?_); rw [Try.results155] at hR; refine wg_run ?_; (simp only [Try.f155, go_sem])
        repeat' (first | (first | (simp only [go_sem, int_bne]) | (((first | refine sp1 ?_ ?_ | refine sp2 ?_ ?_ | refine sp3 ?_ ?_ | refine sp4 ?_ ?_ | refine sp5 ?_ ?_ | refine sp6 ?_ ?_ | refine sp7 ?_ ?_) <;> intro hb) <;> (simp only [go_sem, hb, int_bne])) | ((first | refine wm_done ?_ | refine wt_done ?_ | refine wg_run ?_ | refine fk ?_ ?_) <;> (simp only [go_sem, int_bne]))) | ((first | refine mx 6 [] follows ?_ | refine mx 5 [] follows ?_ | refine mx 4 [] follows ?_ | refine mx 3 [] follows ?_ | refine mx 2 [] follows ?_ | refine mx 1 [] follows ?_ | refine mx 0 [] follows ?_ | fail); (simp only [go_sem, int_bne])) | (first | refine cd (hc := hp) (hK := ?_) | refine cm (hc := hp) (hK := ?_) | refine ct (hc := hp) (hK := ?_)); (simp only [go_sem]) | (first | refine cd (hc := c1 _) (hK := ?_) | refine cm (hc := c1 _) (hK := ?_) | refine ct (hc := c1 _) (hK := ?_)); (simp only [go_sem]) | (first | refine cd (hc := c2 _) (hK := ?_) | refine cm (hc := c2 _) (hK := ?_) | refine ct (hc := c2 _) (hK := ?_)); (simp only [go_sem]) | (first | refine cd (hc := hn _ [_]) (hK := ?_) | refine cm (hc := hn _ [_]) (hK := ?_) | refine ct (hc := hn _ [_]) (hK := ?_)); (simp only [go_sem]) | fail)
        all_goals (refine hR _ ?_; refine rat [] (hK := ⟨rfl, rfl⟩))
    all_goals
      cases fs
      all_goals
        simp only [ruleFst, ruleSnd, srS, SR.tm, SR.code, SR.lab]
        simp only [E.tm, nd, T.ty] at hp ⊢
        refine fn_in ?_; refine acl_in Try.func155 rfl isfn_155 (Nat.le_of_ble_eq_true rfl) (fun R hR => ?_); rw [Try.results155] at hR; refine wg_run ?_; (simp only [Try.f155, go_sem])
        repeat' (first | (first | (simp only [go_sem, int_bne]) | (((first | refine sp1 ?_ ?_ | refine sp2 ?_ ?_ | refine sp3 ?_ ?_ | refine sp4 ?_ ?_ | refine sp5 ?_ ?_ | refine sp6 ?_ ?_ | refine sp7 ?_ ?_) <;> intro hb) <;> (simp only [go_sem, hb, int_bne])) | ((first | refine wm_done ?_ | refine wt_done ?_ | refine wg_run ?_ | refine fk ?_ ?_) <;> (simp only [go_sem, int_bne]))) | ((first | refine mx 6 [] follows ?_ | refine mx 5 [] follows ?_ | refine mx 4 [] follows ?_ | refine mx 3 [] follows ?_ | refine mx 2 [] follows ?_ | refine mx 1 [] follows ?_ | refine mx 0 [] follows ?_ | fail); (simp only [go_sem, int_bne])) | (first | refine cd (hc := hp) (hK := ?_) | refine cm (hc := hp) (hK := ?_) | refine ct (hc := hp) (hK := ?_)); (simp only [go_sem]) | fail)
        all_goals (refine hR _ ?_; refine rat [] (hK := ⟨rfl, rfl⟩))
  | _ =>
    cases fs
    all_goals
      simp only [ruleFst, ruleSnd, srS, SR.tm, SR.code, SR.lab]
      simp only [E.tm, nd]
      refine fn_in ?_; refine acl_in Try.func155 rfl isfn_155 (Nat.le_of_ble_eq_true rfl) (fun R hR => ?_); rw [Try.results155] at hR; refine wg_run ?_; (simp only [Try.f155, go_sem])
      repeat' (first | (first | (simp only [go_sem, int_bne]) | (((first | refine sp1 ?_ ?_ | refine sp2 ?_ ?_ | refine sp3 ?_ ?_ | refine sp4 ?_ ?_ | refine sp5 ?_ ?_ | refine sp6 ?_ ?_ | refine sp7 ?_ ?_) <;> intro hb) <;> (simp only [go_sem, hb, int_bne])) | ((first | refine wm_done ?_ | refine wt_done ?_ | refine wg_run ?_ | refine fk ?_ ?_) <;> (simp only [go_sem, int_bne]))) | ((first | refine mx 6 [] follows ?_ | refine mx 5 [] follows ?_ | refine mx 4 [] follows ?_ | refine mx 3 [] follows ?_ | refine mx 2 [] follows ?_ | refine mx 1 [] follows ?_ | refine mx 0 [] follows ?_ | fail); (simp only [go_sem, int_bne])) | (first | refine cd (hc := sProxy0 _ rfl) (hK := ?_) | refine cm (hc := sProxy0 _ rfl) (hK := ?_) | refine ct (hc := sProxy0 _ rfl) (hK := ?_)); (simp only [go_sem]) | fail)
      all_goals (refine hR _ ?_; refine rat [] (hK := ⟨rfl, rfl⟩))
theorem sBool5 (b : Bool) : AFn Try.prog 178 [.one (.sc (.bool b))] (.agg (teC (match b with | true => E.tru | false => E.fls).tm)) := by
  cases b
  all_goals
    simp only [E.tm, nd]
    refine fn_in ?_; refine acl_in Try.func178 rfl isfn_178 (Nat.le_of_ble_eq_true rfl) (fun R hR => ?_); rw [Try.results178] at hR; refine wg_run ?_; (simp only [Try.f178, go_sem])
    repeat' (first | (first | (((first | refine sp1 ?_ ?_ | refine sp2 ?_ ?_ | refine sp3 ?_ ?_ | refine sp4 ?_ ?_ | refine sp5 ?_ ?_ | refine sp6 ?_ ?_ | refine sp7 ?_ ?_) <;> intro hb) <;> (simp only [go_sem, hb])) | ((first | refine wm_done ?_ | refine wt_done ?_ | refine wg_run ?_ | refine fk ?_ ?_) <;> (simp only [go_sem]))) | fail)
    all_goals (refine hR _ ?_; refine rat [] (hK := ⟨rfl, rfl⟩))
theorem sNum2 (n : Int) : AFn Try.prog 132 [.one (.sc (.int .i64 n))] (.agg (teC (E.num n).tm)) := by
  simp only [E.tm]
  refine fn_in ?_; refine acl_in Try.func132 rfl isfn_132 (Nat.le_of_ble_eq_true rfl) (fun R hR => ?_); rw [Try.results132] at hR; refine wg_run ?_; (simp only [Try.f132, go_sem])
  repeat' (first | (first | (((first | refine sp1 ?_ ?_ | refine sp2 ?_ ?_ | refine sp3 ?_ ?_ | refine sp4 ?_ ?_ | refine sp5 ?_ ?_ | refine sp6 ?_ ?_ | refine sp7 ?_ ?_) <;> intro hb) <;> (simp only [go_sem, hb])) | ((first | refine wm_done ?_ | refine wt_done ?_ | refine wg_run ?_ | refine fk ?_ ?_) <;> (simp only [go_sem]))) | fail)
  all_goals (refine hR _ ?_; refine rat [] (hK := ⟨rfl, rfl⟩))
theorem sNumber (a b : E) (ha : a.wf = true) (hb : b.wf = true) (ad : Bool) : AFn Try.prog 154 [.one (.sc (.int .i64 (match ad with | true => 7 | false => 8))), .agg (teC a.tm), .agg (teC b.tm)] (srS (match ad with | true => ruleAdd a b | false => ruleLess a b)) := by
  cases a with
  | num n =>
    cases b with
    | num m =>
      simp only [E.wf, Bool.and_eq_true, decide_eq_true_eq] at ha hb
      have hw : IntKind.i64.wrap (n + m) = n + m := IntWalk.i64_in _ (by omega)
      have hn := sNum2 ((n + m).tmod 1000)
      have ht := sBool5 (decide (n < m))
      cases ad
      · simp only [ruleLess]
        cases hd : decide (n < m)
        all_goals
          rw [hd] at ht
          simp only [srS, SR.tm, SR.code, SR.lab]
          simp only [E.tm, nd] at ht ⊢
          refine fn_in ?_; refine acl_in Try.func154 rfl isfn_154 (Nat.le_of_ble_eq_true rfl) (fun R hR => ?_); rw [Try.results154] at hR; refine wg_run ?_; (simp only [Try.f154, go_sem, hd])
          repeat' (first | (first | (simp only [go_sem, hd, int_bne]) | (((first | refine sp1 ?_ ?_ | refine sp2 ?_ ?_ | refine sp3 ?_ ?_ | refine sp4 ?_ ?_ | refine sp5 ?_ ?_ | refine sp6 ?_ ?_ | refine sp7 ?_ ?_) <;> intro hb) <;> (simp only [go_sem, hb, hd, int_bne])) | ((first | refine wm_done ?_ | refine wt_done ?_ | refine wg_run ?_ | refine fk ?_ ?_) <;> (simp only [go_sem, hd, int_bne]))) | ((first | refine mx 6 [] follows ?_ | refine mx 5 [] follows ?_ | refine mx 4 [] follows ?_ | refine mx 3 [] follows ?_ | refine mx 2 [] follows ?_ | refine mx 1 [] follows ?_ | refine mx 0 [] follows ?_ | fail); (simp only [go_sem, hd, int_bne])) | (first | refine cd (hc := ht) (hK := ?_) | refine cm (hc := ht) (hK := ?_) | refine ct (hc := ht) (hK := ?_)); (simp only [go_sem]) | fail)
          all_goals (refine hR _ ?_; refine rat [] (hK := ⟨rfl, rfl⟩))
      · simp only [ruleAdd, srS, SR.tm, SR.code, SR.lab]
        simp only [E.tm, nd] at hn ⊢
        refine fn_in ?_; refine acl_in Try.func154 rfl isfn_154 (Nat.le_of_ble_eq_true rfl) (fun R hR => ?_); rw [Try.results154] at hR; refine wg_run ?_; (simp only [Try.f154, go_sem, hw])
        repeat' (first | (first | (simp only [go_sem, hw, int_bne]) | (((first | refine sp1 ?_ ?_ | refine sp2 ?_ ?_ | refine sp3 ?_ ?_ | refine sp4 ?_ ?_ | refine sp5 ?_ ?_ | refine sp6 ?_ ?_ | refine sp7 ?_ ?_) <;> intro hb) <;> (simp only [go_sem, hb, hw, int_bne])) | ((first | refine wm_done ?_ | refine wt_done ?_ | refine wg_run ?_ | refine fk ?_ ?_) <;> (simp only [go_sem, hw, int_bne]))) | ((first | refine mx 6 [] follows ?_ | refine mx 5 [] follows ?_ | refine mx 4 [] follows ?_ | refine mx 3 [] follows ?_ | refine mx 2 [] follows ?_ | refine mx 1 [] follows ?_ | refine mx 0 [] follows ?_ | fail); (simp only [go_sem, hw, int_bne])) | (first | refine cd (hc := hn) (hK := ?_) | refine cm (hc := hn) (hK := ?_) | refine ct (hc := hn) (hK := ?_)); (simp only [go_sem]) | fail)
        all_goals (refine hR _ ?_; refine rat [] (hK := ⟨rfl, rfl⟩))
    | _ =>
      cases ad
      all_goals
        simp only [ruleAdd, ruleLess, srS, SR.tm, SR.code, SR.lab]
        simp only [E.tm, nd]
        refine fn_in ?_; refine acl_in Try.func154 rfl isfn_154 (Nat.le_of_ble_eq_true rfl) (fun R hR => ?_); rw [Try.results154] at hR; refine wg_run ?_; (simp only [Try.f154, go_sem])
        repeat' (first | (first | (simp only [go_sem, int_bne]) | (((first | refine sp1 ?_ ?_ | refine sp2 ?_ ?_ | refine sp3 ?_ ?_ | refine sp4 ?_ ?_ | refine sp5 ?_ ?_ | refine sp6 ?_ ?_ | refine sp7 ?_ ?_) <;> intro hb) <;> (simp only [go_sem, hb, int_bne])) | ((first | refine wm_done ?_ | refine wt_done ?_ | refine wg_run ?_ | refine fk ?_ ?_) <;> (simp only [go_sem, int_bne]))) | ((first | refine mx 6 [] follows ?_ | refine mx 5 [] follows ?_ | refine mx 4 [] follows ?_ | refine mx 3 [] follows ?_ | refine mx 2 [] follows ?_ | refine mx 1 [] follows ?_ | refine mx 0 [] follows ?_ | fail); (simp only [go_sem, int_bne])) | fail)
        all_goals (refine hR _ ?_; refine rat [] (hK := ⟨rfl, rfl⟩))
  | _ =>
    cases ad
    all_goals
      simp only [ruleAdd, ruleLess, srS, SR.tm, SR.code, SR.lab]
      simp only [E.tm, nd]
      refine fn_in ?_; refine acl_in Try.func154 rfl isfn_154 (Nat.le_of_ble_eq_true rfl) (fun R hR => ?_); rw [Try.results154] at hR; refine wg_run ?_; (simp only [Try.f154, go_sem])
      repeat' (first | (first | (simp only [go_sem, int_bne]) | (((first | refine sp1 ?_ ?_ | refine sp2 ?_ ?_ | refine sp3 ?_ ?_ | refine sp4 ?_ ?_ | refine sp5 ?_ ?_ | refine sp6 ?_ ?_ | refine sp7 ?_ ?_) <;> intro hb) <;> (simp only [go_sem, hb, int_bne])) | ((first | refine wm_done ?_ | refine wt_done ?_ | refine wg_run ?_ | refine fk ?_ ?_) <;> (simp only [go_sem, int_bne]))) | ((first | refine mx 6 [] follows ?_ | refine mx 5 [] follows ?_ | refine mx 4 [] follows ?_ | refine mx 3 [] follows ?_ | refine mx 2 [] follows ?_ | refine mx 1 [] follows ?_ | refine mx 0 [] follows ?_ | fail); (simp only [go_sem, int_bne])) | fail)
      all_goals (refine hR _ ?_; refine rat [] (hK := ⟨rfl, rfl⟩))
theorem sReduce (e : E) (h : e.wf = true) (hz : e.tm.size < 100000000) (hi : (e.tm.kind == 9) = false) : AFn Try.prog 115 [.agg (teC e.tm)] (srS e.red) := by
  cases e with
  | app a b =>
    rw [red_app]
    simp only [E.wf, Bool.and_eq_true] at h
    simp only [E.tm, nd, Tm.size, Tm.sizes] at hz
    have h1 := sApply a b h.1 h.2 (by omega) (by omega)
    simp only [E.tm, nd]
    unfold srS at h1 ⊢
    refine fn_in ?_; refine acl_in Try.func115 rfl isfn_115 (Nat.le_of_ble_eq_true rfl) (fun R hR => ?_); rw [Try.results115] at hR; refine wg_run ?_; (simp only [Try.f115, go_sem])
    repeat' (first | (first | (simp only [go_sem, int_bne]) | (((first | refine sp1 ?_ ?_ | refine sp2 ?_ ?_ | refine sp3 ?_ ?_ | refine sp4 ?_ ?_ | refine sp5 ?_ ?_ | refine sp6 ?_ ?_ | refine sp7 ?_ ?_) <;> intro hb) <;> (simp only [go_sem, hb, int_bne])) | ((first | refine wm_done ?_ | refine wt_done ?_ | refine wg_run ?_ | refine fk ?_ ?_) <;> (simp only [go_sem, int_bne]))) | ((first | refine mx 6 [] follows ?_ | refine mx 5 [] follows ?_ | refine mx 4 [] follows ?_ | refine mx 3 [] follows ?_ | refine mx 2 [] follows ?_ | refine mx 1 [] follows ?_ | refine mx 0 [] follows ?_ | fail); (simp only [go_sem, int_bne])) | (first | refine cd (hc := h1) (hK := ?_) | refine cm (hc := h1) (hK := ?_) | refine ct (hc := h1) (hK := ?_)); (simp only [go_sem]) | fail)
    all_goals (refine hR _ ?_; refine rat [] (hK := ⟨rfl, rfl⟩))
  | add a b =>
    rw [red_add]
    simp only [E.wf, Bool.and_eq_true] at h
    have h1 := sNumber a b h.1 h.2 true
    simp only [E.tm, nd]
    unfold srS at h1 ⊢
    refine fn_in ?_; refine acl_in Try.func115 rfl isfn_115 (Nat.le_of_ble_eq_true rfl) (fun R hR => ?_); rw [Try.results115] at hR; refine wg_run ?_; (simp only [Try.f115, go_sem])
    repeat' (first | (first | (simp only [go_sem, int_bne]) | (((first | refine sp1 ?_ ?_ | refine sp2 ?_ ?_ | refine sp3 ?_ ?_ | refine sp4 ?_ ?_ | refine sp5 ?_ ?_ | refine sp6 ?_ ?_ | refine sp7 ?_ ?_) <;> intro hb) <;> (simp only [go_sem, hb, int_bne])) | ((first | refine wm_done ?_ | refine wt_done ?_ | refine wg_run ?_ | refine fk ?_ ?_) <;> (simp only [go_sem, int_bne]))) | ((first | refine mx 6 [] follows ?_ | refine mx 5 [] follows ?_ | refine mx 4 [] follows ?_ | refine mx 3 [] follows ?_ | refine mx 2 [] follows ?_ | refine mx 1 [] follows ?_ | refine mx 0 [] follows ?_ | fail); (simp only [go_sem, int_bne])) | (first | refine cd (hc := h1) (hK := ?_) | refine cm (hc := h1) (hK := ?_) | refine ct (hc := h1) (hK := ?_)); (simp only [go_sem]) | fail)
    all_goals (refine hR _ ?_; refine rat [] (hK := ⟨rfl, rfl⟩))
  | less a b =>
    rw [red_less]
    simp only [E.wf, Bool.and_eq_true] at h
    have h1 := sNumber a b h.1 h.2 false
    simp only [E.tm, nd]
    unfold srS at h1 ⊢
    refine fn_in ?_; refine acl_in Try.func115 rfl isfn_115 (Nat.le_of_ble_eq_true rfl) (fun R hR => ?_); rw [Try.results115] at hR; refine wg_run ?_; (simp only [Try.f115, go_sem])
    repeat' (first | (first | (simp only [go_sem, int_bne]) | (((first | refine sp1 ?_ ?_ | refine sp2 ?_ ?_ | refine sp3 ?_ ?_ | refine sp4 ?_ ?_ | refine sp5 ?_ ?_ | refine sp6 ?_ ?_ | refine sp7 ?_ ?_) <;> intro hb) <;> (simp only [go_sem, hb, int_bne])) | ((first | refine wm_done ?_ | refine wt_done ?_ | refine wg_run ?_ | refine fk ?_ ?_) <;> (simp only [go_sem, int_bne]))) | ((first | refine mx 6 [] follows ?_ | refine mx 5 [] follows ?_ | refine mx 4 [] follows ?_ | refine mx 3 [] follows ?_ | refine mx 2 [] follows ?_ | refine mx 1 [] follows ?_ | refine mx 0 [] follows ?_ | fail); (simp only [go_sem, int_bne])) | (first | refine cd (hc := h1) (hK := ?_) | refine cm (hc := h1) (hK := ?_) | refine ct (hc := h1) (hK := ?_)); (simp only [go_sem]) | fail)
    all_goals (refine hR _ ?_; refine rat [] (hK := ⟨rfl, rfl⟩))
  | fst a =>
    rw [red_fst]
    simp only [E.wf] at h
    have h1 := sPart a h true
    simp only [E.tm, nd]
    unfold srS at h1 ⊢
    refine fn_in ?_; refine acl_in Try.func115 rfl isfn_115 (Nat.le_of_ble_eq_true rfl) (fun R hR => ?_); rw [Try.results115] at hR; refine wg_run ?_; (simp only [Try.f115, go_sem])
    repeat' (first | (first | (simp only [go_sem, int_bne]) | (((first | refine sp1 ?_ ?_ | refine sp2 ?_ ?_ | refine sp3 ?_ ?_ | refine sp4 ?_ ?_ | refine sp5 ?_ ?_ | refine sp6 ?_ ?_ | refine sp7 ?_ ?_) <;> intro hb) <;> (simp only [go_sem, hb, int_bne])) | ((first | refine wm_done ?_ | refine wt_done ?_ | refine wg_run ?_ | refine fk ?_ ?_) <;> (simp only [go_sem, int_bne]))) | ((first | refine mx 6 [] follows ?_ | refine mx 5 [] follows ?_ | refine mx 4 [] follows ?_ | refine mx 3 [] follows ?_ | refine mx 2 [] follows ?_ | refine mx 1 [] follows ?_ | refine mx 0 [] follows ?_ | fail); (simp only [go_sem, int_bne])) | (first | refine cd (hc := h1) (hK := ?_) | refine cm (hc := h1) (hK := ?_) | refine ct (hc := h1) (hK := ?_)); (simp only [go_sem]) | fail)
    all_goals (refine hR _ ?_; refine rat [] (hK := ⟨rfl, rfl⟩))
  | snd a =>
    rw [red_snd]
    simp only [E.wf] at h
    have h1 := sPart a h false
    simp only [E.tm, nd]
    unfold srS at h1 ⊢
    refine fn_in ?_; refine acl_in Try.func115 rfl isfn_115 (Nat.le_of_ble_eq_true rfl) (fun R hR => ?_); rw [Try.results115] at hR; refine wg_run ?_; (simp only [Try.f115, go_sem])
    repeat' (first | (first | (simp only [go_sem, int_bne]) | (((first | refine sp1 ?_ ?_ | refine sp2 ?_ ?_ | refine sp3 ?_ ?_ | refine sp4 ?_ ?_ | refine sp5 ?_ ?_ | refine sp6 ?_ ?_ | refine sp7 ?_ ?_) <;> intro hb) <;> (simp only [go_sem, hb, int_bne])) | ((first | refine wm_done ?_ | refine wt_done ?_ | refine wg_run ?_ | refine fk ?_ ?_) <;> (simp only [go_sem, int_bne]))) | ((first | refine mx 6 [] follows ?_ | refine mx 5 [] follows ?_ | refine mx 4 [] follows ?_ | refine mx 3 [] follows ?_ | refine mx 2 [] follows ?_ | refine mx 1 [] follows ?_ | refine mx 0 [] follows ?_ | fail); (simp only [go_sem, int_bne])) | (first | refine cd (hc := h1) (hK := ?_) | refine cm (hc := h1) (hK := ?_) | refine ct (hc := h1) (hK := ?_)); (simp only [go_sem]) | fail)
    all_goals (refine hR _ ?_; refine rat [] (hK := ⟨rfl, rfl⟩))
  | cast s t l a =>
    rw [red_cast]
    have h1 := sConvert s t l a h
    simp only [E.tm] at h1 ⊢
    unfold srS at h1 ⊢
    refine fn_in ?_; refine acl_in Try.func115 rfl isfn_115 (Nat.le_of_ble_eq_true rfl) (fun R hR => ?_); rw [Try.results115] at hR; refine wg_run ?_; (simp only [Try.f115, go_sem])
    repeat' (first | (first | (simp only [go_sem, int_bne]) | (((first | refine sp1 ?_ ?_ | refine sp2 ?_ ?_ | refine sp3 ?_ ?_ | refine sp4 ?_ ?_ | refine sp5 ?_ ?_ | refine sp6 ?_ ?_ | refine sp7 ?_ ?_) <;> intro hb) <;> (simp only [go_sem, hb, int_bne])) | ((first | refine wm_done ?_ | refine wt_done ?_ | refine wg_run ?_ | refine fk ?_ ?_) <;> (simp only [go_sem, int_bne]))) | ((first | refine mx 6 [] follows ?_ | refine mx 5 [] follows ?_ | refine mx 4 [] follows ?_ | refine mx 3 [] follows ?_ | refine mx 2 [] follows ?_ | refine mx 1 [] follows ?_ | refine mx 0 [] follows ?_ | fail); (simp only [go_sem, int_bne])) | (first | refine cd (hc := h1) (hK := ?_) | refine cm (hc := h1) (hK := ?_) | refine ct (hc := h1) (hK := ?_)); (simp only [go_sem]) | fail)
    all_goals (refine hR _ ?_; refine rat [] (hK := ⟨rfl, rfl⟩))
  | ite a b c => simp [E.tm, nd, Tm.kind] at hi
  | _ =>
    simp only [E.red, E.ruleI, E.castR, srS, SR.tm, SR.code, SR.lab]
    simp only [E.tm, nd]
    refine fn_in ?_; refine acl_in Try.func115 rfl isfn_115 (Nat.le_of_ble_eq_true rfl) (fun R hR => ?_); rw [Try.results115] at hR; refine wg_run ?_; (simp only [Try.f115, go_sem])
    repeat' (first | (first | (simp only [go_sem, int_bne]) | (((first | refine sp1 ?_ ?_ | refine sp2 ?_ ?_ | refine sp3 ?_ ?_ | refine sp4 ?_ ?_ | refine sp5 ?_ ?_ | refine sp6 ?_ ?_ | refine sp7 ?_ ?_) <;> intro hb) <;> (simp only [go_sem, hb, int_bne])) | ((first | refine wm_done ?_ | refine wt_done ?_ | refine wg_run ?_ | refine fk ?_ ?_) <;> (simp only [go_sem, int_bne]))) | ((first | refine mx 6 [] follows ?_ | refine mx 5 [] follows ?_ | refine mx 4 [] follows ?_ | refine mx 3 [] follows ?_ | refine mx 2 [] follows ?_ | refine mx 1 [] follows ?_ | refine mx 0 [] follows ?_ | fail); (simp only [go_sem, int_bne])) | fail)
    all_goals (refine hR _ ?_; refine rat [] (hK := ⟨rfl, rfl⟩))
end Go.Proofs.Ytnaebafafhamjaa
/- Steps of terms with casts, in the reference. On shadows. -/
namespace Go.Proofs.Ytnaebafafhamjaa
open Go.RowKit Go.Proofs.Sh Go.Proofs.Grad
set_option maxRecDepth 100000
set_option maxHeartbeats 8000000
theorem sStep (e : E) : e.wf = true → e.noA = true → e.val = false → e.tm.size < 100000000 → AFn Try.prog 72 [.agg (teC e.tm)] (srS e.step) := by
  induction e with
  | app a b iha ihb =>
    intro hw hn hv hz
    have hr := sReduce (.app a b) hw hz rfl
    simp only [E.wf, E.noA, Bool.and_eq_true] at hw hn
    simp only [E.tm, nd, Tm.size, Tm.sizes] at hz
    have va := sIsVal a hw.1
    have vb := sIsVal b hw.2
    rw [E.val_tm] at va vb
    simp only [E.step]
    cases ea : a.val
    · rw [ea] at va
      have h1 := iha hw.1 hn.1 ea (by omega)
      cases es : a.step
      all_goals
        rw [es] at h1
        simp only [SR.map, srS, SR.tm, SR.code, SR.lab] at h1 ⊢
        simp only [E.tm, nd]
        refine fn_in ?_; refine acl_in Try.func72 rfl isfn_72 (Nat.le_of_ble_eq_true rfl) (fun R hR => ?_); rw [Try.results72] at hR; refine wg_run ?_; (simp only [Try.f72, go_sem])
        repeat' (first | (first | (simp only [go_sem, int_bne]) | (((first | refine sp1 ?_ ?_ | refine sp2 ?_ ?_ | refine sp3 ?_ ?_ | refine sp4 ?_ ?_ | refine sp5 ?_ ?_ | refine sp6 ?_ ?_ | refine sp7 ?_ ?_) <;> intro hb) <;> (simp only [go_sem, hb, int_bne])) | ((first | refine wm_done ?_ | refine wt_done ?_ | refine wg_run ?_ | refine fk ?_ ?_) <;> (simp only [go_sem, int_bne]))) | (first | (refine wl_next (wg_run ?_); (simp only [go_sem])) | refine wd_rounds 6 ?_) | ((first | refine mx 6 [] follows ?_ | refine mx 5 [] follows ?_ | refine mx 4 [] follows ?_ | refine mx 3 [] follows ?_ | refine mx 2 [] follows ?_ | refine mx 1 [] follows ?_ | refine mx 0 [] follows ?_ | fail); (simp only [go_sem, int_bne])) | (first | refine cd (hc := va) (hK := ?_) | refine cm (hc := va) (hK := ?_) | refine ct (hc := va) (hK := ?_)); (simp only [go_sem]) | (first | refine cd (hc := h1) (hK := ?_) | refine cm (hc := h1) (hK := ?_) | refine ct (hc := h1) (hK := ?_)); (simp only [go_sem]) | fail)
        all_goals (refine hR _ ?_; refine rat [] (hK := ⟨rfl, rfl⟩))
    · rw [ea] at va
      simp only []
      cases eb : b.val
      · rw [eb] at vb
        have h1 := ihb hw.2 hn.2 eb (by omega)
        cases es : b.step
        all_goals
          rw [es] at h1
          simp only [SR.map, srS, SR.tm, SR.code, SR.lab] at h1 ⊢
          simp only [E.tm, nd]
          refine fn_in ?_; refine acl_in Try.func72 rfl isfn_72 (Nat.le_of_ble_eq_true rfl) (fun R hR => ?_); rw [Try.results72] at hR; refine wg_run ?_; (simp only [Try.f72, go_sem])
          repeat' (first | (first | (simp only [go_sem, int_bne]) | (((first | refine sp1 ?_ ?_ | refine sp2 ?_ ?_ | refine sp3 ?_ ?_ | refine sp4 ?_ ?_ | refine sp5 ?_ ?_ | refine sp6 ?_ ?_ | refine sp7 ?_ ?_) <;> intro hb) <;> (simp only [go_sem, hb, int_bne])) | ((first | refine wm_done ?_ | refine wt_done ?_ | refine wg_run ?_ | refine fk ?_ ?_) <;> (simp only [go_sem, int_bne]))) | (first | (refine wl_next (wg_run ?_); (simp only [go_sem])) | refine wd_rounds 6 ?_) | ((first | refine mx 6 [] follows ?_ | refine mx 5 [] follows ?_ | refine mx 4 [] follows ?_ | refine mx 3 [] follows ?_ | refine mx 2 [] follows ?_ | refine mx 1 [] follows ?_ | refine mx 0 [] follows ?_ | fail); (simp only [go_sem, int_bne])) | (first | refine cd (hc := va) (hK := ?_) | refine cm (hc := va) (hK := ?_) | refine ct (hc := va) (hK := ?_)); (simp only [go_sem]) | (first | refine cd (hc := vb) (hK := ?_) | refine cm (hc := vb) (hK := ?_) | refine ct (hc := vb) (hK := ?_)); (simp only [go_sem]) | (first | refine cd (hc := h1) (hK := ?_) | refine cm (hc := h1) (hK := ?_) | refine ct (hc := h1) (hK := ?_)); (simp only [go_sem]) | fail)
          all_goals (refine hR _ ?_; refine rat [] (hK := ⟨rfl, rfl⟩))
      · rw [eb] at vb
        rw [red_app] at hr
        simp only []
        simp only [E.tm, nd] at hr ⊢
        unfold srS at hr ⊢
        refine fn_in ?_; refine acl_in Try.func72 rfl isfn_72 (Nat.le_of_ble_eq_true rfl) (fun R hR => ?_); rw [Try.results72] at hR; refine wg_run ?_; (simp only [Try.f72, go_sem])
        repeat' (first | (first | (simp only [go_sem, int_bne]) | (((first | refine sp1 ?_ ?_ | refine sp2 ?_ ?_ | refine sp3 ?_ ?_ | refine sp4 ?_ ?_ | refine sp5 ?_ ?_ | refine sp6 ?_ ?_ | refine sp7 ?_ ?_) <;> intro hb) <;> (simp only [go_sem, hb, int_bne])) | ((first | refine wm_done ?_ | refine wt_done ?_ | refine wg_run ?_ | refine fk ?_ ?_) <;> (simp only [go_sem, int_bne]))) | (first | (refine wl_next (wg_run ?_); (simp only [go_sem])) | refine wd_rounds 6 ?_) | ((first | refine mx 6 [] follows ?_ | refine mx 5 [] follows ?_ | refine mx 4 [] follows ?_ | refine mx 3 [] follows ?_ | refine mx 2 [] follows ?_ | refine mx 1 [] follows ?_ | refine mx 0 [] follows ?_ | fail); (simp only [go_sem, int_bne])) | (first | refine cd (hc := va) (hK := ?_) | refine cm (hc := va) (hK := ?_) | refine ct (hc := va) (hK := ?_)); (simp only [go_sem]) | (first | refine cd (hc := vb) (hK := ?_) | refine cm (hc := vb) (hK := ?_) | refine ct (hc := vb) (hK := ?_)); (simp only [go_sem]) | (first | refine cd (hc := hr) (hK := ?_) | refine cm (hc := hr) (hK := ?_) | refine ct (hc := hr) (hK := ?_)); (simp only [go_sem]) | fail)
        all_goals (refine hR _ ?_; refine rat [] (hK := ⟨rfl, rfl⟩))
  | add a b iha ihb =>
    intro hw hn hv hz
    have hr := sReduce (.add a b) hw hz rfl
    simp only [E.wf, E.noA, Bool.and_eq_true] at hw hn
    simp only [E.tm, nd, Tm.size, Tm.sizes] at hz
    have va := sIsVal a hw.1
    have vb := sIsVal b hw.2
    rw [E.val_tm] at va vb
    simp only [E.step]
    cases ea : a.val
    · rw [ea] at va
      have h1 := iha hw.1 hn.1 ea (by omega)
      cases es : a.step
      all_goals
        rw [es] at h1
        simp only [SR.map, srS, SR.tm, SR.code, SR.lab] at h1 ⊢
        simp only [E.tm, nd]
        refine fn_in ?_; refine acl_in Try.func72 rfl isfn_72 (Nat.le_of_ble_eq_true rfl) (fun R hR => ?_); rw [Try.results72] at hR; refine wg_run ?_; (simp only [Try.f72, go_sem])
        repeat' (first | (first | (simp only [go_sem, int_bne]) | (((first | refine sp1 ?_ ?_ | refine sp2 ?_ ?_ | refine sp3 ?_ ?_ | refine sp4 ?_ ?_ | refine sp5 ?_ ?_ | refine sp6 ?_ ?_ | refine sp7 ?_ ?_) <;> intro hb) <;> (simp only [go_sem, hb, int_bne])) | ((first | refine wm_done ?_ | refine wt_done ?_ | refine wg_run ?_ | refine fk ?_ ?_) <;> (simp only [go_sem, int_bne]))) | (first | (refine wl_next (wg_run ?_); (simp only [go_sem])) | refine wd_rounds 6 ?_) | ((first | refine mx 6 [] follows ?_ | refine mx 5 [] follows ?_ | refine mx 4 [] follows ?_ | refine mx 3 [] follows ?_ | refine mx 2 [] follows ?_ | refine mx 1 [] follows ?_ | refine mx 0 [] follows ?_ | fail); (simp only [go_sem, int_bne])) | (first | refine cd (hc := va) (hK := ?_) | refine cm (hc := va) (hK := ?_) | refine ct (hc := va) (hK := ?_)); (simp only [go_sem]) | (first | refine cd (hc := h1) (hK := ?_) | refine cm (hc := h1) (hK := ?_) | refine ct (hc := h1) (hK := ?_)); (simp only [go_sem]) | fail)
        all_goals (refine hR _ ?_; refine rat [] (hK := ⟨rfl, rfl⟩))
    · rw [ea] at va
      simp only []
      cases eb : b.val
      · rw [eb] at vb
        have h1 := ihb hw.2 hn.2 eb (by omega)
        cases es : b.step
        all_goals
          rw [es] at h1
          simp only [SR.map, srS, SR.tm, SR.code, SR.lab] at h1 ⊢
          simp only [E.tm, nd]
          refine fn_in ?_; refine acl_in Try.func72 rfl isfn_72 (Nat.le_of_ble_eq_true rfl) (fun R hR => ?_); rw [Try.results72] at hR; refine wg_run ?_; (simp only [Try.f72, go_sem])
          repeat' (first | (first | (simp only [go_sem, int_bne]) | (((first | refine sp1 ?_ ?_ | refine sp2 ?_ ?_ | refine sp3 ?_ ?_ | refine sp4 ?_ ?_ | refine sp5 ?_ ?_ | refine sp6 ?_ ?_ | refine sp7 ?_ ?_) <;> intro hb) <;> (simp only [go_sem, hb, int_bne])) | ((first | refine wm_done ?_ | refine wt_done ?_ | refine wg_run ?_ | refine fk ?_ ?_) <;> (simp only [go_sem, int_bne]))) | (first | (refine wl_next (wg_run ?_); (simp only [go_sem])) | refine wd_rounds 6 ?_) | ((first | refine mx 6 [] follows ?_ | refine mx 5 [] follows ?_ | refine mx 4 [] follows ?_ | refine mx 3 [] follows ?_ | refine mx 2 [] follows ?_ | refine mx 1 [] follows ?_ | refine mx 0 [] follows ?_ | fail); (simp only [go_sem, int_bne])) | (first | refine cd (hc := va) (hK := ?_) | refine cm (hc := va) (hK := ?_) | refine ct (hc := va) (hK := ?_)); (simp only [go_sem]) | (first | refine cd (hc := vb) (hK := ?_) | refine cm (hc := vb) (hK := ?_) | refine ct (hc := vb) (hK := ?_)); (simp only [go_sem]) | (first | refine cd (hc := h1) (hK := ?_) | refine cm (hc := h1) (hK := ?_) | refine ct (hc := h1) (hK := ?_)); (simp only [go_sem]) | fail)
          all_goals (refine hR _ ?_; refine rat [] (hK := ⟨rfl, rfl⟩))
      · rw [eb] at vb
        rw [red_add] at hr
        simp only []
        simp only [E.tm, nd] at hr ⊢
        unfold srS at hr ⊢
        refine fn_in ?_; refine acl_in Try.func72 rfl isfn_72 (Nat.le_of_ble_eq_true rfl) (fun R hR => ?_); rw [Try.results72] at hR; refine wg_run ?_; (simp only [Try.f72, go_sem])
        repeat' (first | (first | (simp only [go_sem, int_bne]) | (((first | refine sp1 ?_ ?_ | refine sp2 ?_ ?_ | refine sp3 ?_ ?_ | refine sp4 ?_ ?_ | refine sp5 ?_ ?_ | refine sp6 ?_ ?_ | refine sp7 ?_ ?_) <;> intro hb) <;> (simp only [go_sem, hb, int_bne])) | ((first | refine wm_done ?_ | refine wt_done ?_ | refine wg_run ?_ | refine fk ?_ ?_) <;> (simp only [go_sem, int_bne]))) | (first | (refine wl_next (wg_run ?_); (simp only [go_sem])) | refine wd_rounds 6 ?_) | ((first | refine mx 6 [] follows ?_ | refine mx 5 [] follows ?_ | refine mx 4 [] follows ?_ | refine mx 3 [] follows ?_ | refine mx 2 [] follows ?_ | refine mx 1 [] follows ?_ | refine mx 0 [] follows ?_ | fail); (simp only [go_sem, int_bne])) | (first | refine cd (hc := va) (hK := ?_) | refine cm (hc := va) (hK := ?_) | refine ct (hc := va) (hK := ?_)); (simp only [go_sem]) | (first | refine cd (hc := vb) (hK := ?_) | refine cm (hc := vb) (hK := ?_) | refine ct (hc := vb) (hK := ?_)); (simp only [go_sem]) | (first | refine cd (hc := hr) (hK := ?_) | refine cm (hc := hr) (hK := ?_) | refine ct (hc := hr) (hK := ?_)); (simp only [go_sem]) | fail)
        all_goals (refine hR _ ?_; refine rat [] (hK := ⟨rfl, rfl⟩))
  | less a b iha ihb =>
    intro hw hn hv hz
    have hr := sReduce (.less a b) hw hz rfl
    simp only [E.wf, E.noA, Bool.and_eq_true] at hw hn
    simp only [E.tm, nd, Tm.size, Tm.sizes] at hz
    have va := sIsVal a hw.1
    have vb := sIsVal b hw.2
    rw [E.val_tm] at va vb
    simp only [E.step]
    cases ea : a.val
    · rw [ea] at va
      have h1 := iha hw.1 hn.1 ea (by omega)
      cases es : a.step
      all_goals
        rw [es] at h1
        simp only [SR.map, srS, SR.tm, SR.code, SR.lab] at h1 ⊢
        simp only [E.tm, nd]
        refine fn_in ?_; refine acl_in Try.func72 rfl isfn_72 (Nat.le_of_ble_eq_true rfl) (fun R hR => ?_); rw [Try.results72] at hR; refine wg_run ?_; (simp only [Try.f72, go_sem])
        repeat' (first | (first | (simp only [go_sem, int_bne]) | (((first | refine sp1 ?_ ?_ | refine sp2 ?_ ?_ | refine sp3 ?_ ?_ | refine sp4 ?_ ?_ | refine sp5 ?_ ?_ | refine sp6 ?_ ?_ | refine sp7 ?_ ?_) <;> intro hb) <;> (simp only [go_sem, hb, int_bne])) | ((first | refine wm_done ?_ | refine wt_done ?_ | refine wg_run ?_ | refine fk ?_ ?_) <;> (simp only [go_sem, int_bne]))) | (first | (refine wl_next (wg_run ?_); (simp only [go_sem])) | refine wd_rounds 6 ?_) | ((first | refine mx 6 [] follows ?_ | refine mx 5 [] follows ?_ | refine mx 4 [] follows ?_ | refine mx 3 [] follows ?_ | refine mx 2 [] follows ?_ | refine mx 1 [] follows ?_ | refine mx 0 [] follows ?_ | fail); (simp only [go_sem, int_bne])) | (first | refine cd (hc := va) (hK := ?_) | refine cm (hc := va) (hK := ?_) | refine ct (hc := va) (hK := ?_)); (simp only [go_sem]) | (first | refine cd (hc := h1) (hK := ?_) | refine cm (hc := h1) (hK := ?_) | refine ct (hc := h1) (hK := ?_)); (simp only [go_sem]) | fail)
        all_goals (refine hR _ ?_; refine rat [] (hK := ⟨rfl, rfl⟩))
    · rw [ea] at va
      simp only []
      cases eb : b.val
      · rw [eb] at vb
        have h1 := ihb hw.2 hn.2 eb (by omega)
        cases es : b.step
        all_goals
          rw [es] at h1
          simp only [SR.map, srS, SR.tm, SR.code, SR.lab] at h1 ⊢
          simp only [E.tm, nd]
          refine fn_in ?_; refine acl_in Try.func72 rfl isfn_72 (Nat.le_of_ble_eq_true rfl) (fun R hR => ?_); rw [Try.results72] at hR; refine wg_run ?_; (simp only [Try.f72, go_sem])
          repeat' (first | (first | (simp only [go_sem, int_bne]) | (((first | refine sp1 ?_ ?_ | refine sp2 ?_ ?_ | refine sp3 ?_ ?_ | refine sp4 ?_ ?_ | refine sp5 ?_ ?_ | refine sp6 ?_ ?_ | refine sp7 ?_ ?_) <;> intro hb) <;> (simp only [go_sem, hb, int_bne])) | ((first | refine wm_done ?_ | refine wt_done ?_ | refine wg_run ?_ | refine fk ?_ ?_) <;> (simp only [go_sem, int_bne]))) | (first | (refine wl_next (wg_run ?_); (simp only [go_sem])) | refine wd_rounds 6 ?_) | ((first | refine mx 6 [] follows ?_ | refine mx 5 [] follows ?_ | refine mx 4 [] follows ?_ | refine mx 3 [] follows ?_ | refine mx 2 [] follows ?_ | refine mx 1 [] follows ?_ | refine mx 0 [] follows ?_ | fail); (simp only [go_sem, int_bne])) | (first | refine cd (hc := va) (hK := ?_) | refine cm (hc := va) (hK := ?_) | refine ct (hc := va) (hK := ?_)); (simp only [go_sem]) | (first | refine cd (hc := vb) (hK := ?_) | refine cm (hc := vb) (hK := ?_) | refine ct (hc := vb) (hK := ?_)); (simp only [go_sem]) | (first | refine cd (hc := h1) (hK := ?_) | refine cm (hc := h1) (hK := ?_) | refine ct (hc := h1) (hK := ?_)); (simp only [go_sem]) | fail)
          all_goals (refine hR _ ?_; refine rat [] (hK := ⟨rfl, rfl⟩))
      · rw [eb] at vb
        rw [red_less] at hr
        simp only []
        simp only [E.tm, nd] at hr ⊢
        unfold srS at hr ⊢
        refine fn_in ?_; refine acl_in Try.func72 rfl isfn_72 (Nat.le_of_ble_eq_true rfl) (fun R hR => ?_); rw [Try.results72] at hR; refine wg_run ?_; (simp only [Try.f72, go_sem])
        repeat' (first | (first | (simp only [go_sem, int_bne]) | (((first | refine sp1 ?_ ?_ | refine sp2 ?_ ?_ | refine sp3 ?_ ?_ | refine sp4 ?_ ?_ | refine sp5 ?_ ?_ | refine sp6 ?_ ?_ | refine sp7 ?_ ?_) <;> intro hb) <;> (simp only [go_sem, hb, int_bne])) | ((first | refine wm_done ?_ | refine wt_done ?_ | refine wg_run ?_ | refine fk ?_ ?_) <;> (simp only [go_sem, int_bne]))) | (first | (refine wl_next (wg_run ?_); (simp only [go_sem])) | refine wd_rounds 6 ?_) | ((first | refine mx 6 [] follows ?_ | refine mx 5 [] follows ?_ | refine mx 4 [] follows ?_ | refine mx 3 [] follows ?_ | refine mx 2 [] follows ?_ | refine mx 1 [] follows ?_ | refine mx 0 [] follows ?_ | fail); (simp only [go_sem, int_bne])) | (first | refine cd (hc := va) (hK := ?_) | refine cm (hc := va) (hK := ?_) | refine ct (hc := va) (hK := ?_)); (simp only [go_sem]) | (first | refine cd (hc := vb) (hK := ?_) | refine cm (hc := vb) (hK := ?_) | refine ct (hc := vb) (hK := ?_)); (simp only [go_sem]) | (first | refine cd (hc := hr) (hK := ?_) | refine cm (hc := hr) (hK := ?_) | refine ct (hc := hr) (hK := ?_)); (simp only [go_sem]) | fail)
        all_goals (refine hR _ ?_; refine rat [] (hK := ⟨rfl, rfl⟩))
  | pair a b iha ihb =>
    intro hw hn hv hz
    have hr := sReduce (.pair a b) hw hz rfl
    simp only [E.wf, E.noA, Bool.and_eq_true] at hw hn
    simp only [E.tm, nd, Tm.size, Tm.sizes] at hz
    have va := sIsVal a hw.1
    have vb := sIsVal b hw.2
    rw [E.val_tm] at va vb
    simp only [E.step]
    cases ea : a.val
    · rw [ea] at va
      have h1 := iha hw.1 hn.1 ea (by omega)
      cases es : a.step
      all_goals
        rw [es] at h1
        simp only [SR.map, srS, SR.tm, SR.code, SR.lab] at h1 ⊢
        simp only [E.tm, nd]
        refine fn_in ?_; refine acl_in Try.func72 rfl isfn_72 (Nat.le_of_ble_eq_true rfl) (fun R hR => ?_); rw [Try.results72] at hR; refine wg_run ?_; (simp only [Try.f72, go_sem])
        repeat' (first | (first | (simp only [go_sem, int_bne]) | (((first | refine sp1 ?_ ?_ | refine sp2 ?_ ?_ | refine sp3 ?_ ?_ | refine sp4 ?_ ?_ | refine sp5 ?_ ?_ | refine sp6 ?_ ?_ | refine sp7 ?_ ?_) <;> intro hb) <;> (simp only [go_sem, hb, int_bne])) | ((first | refine wm_done ?_ | refine wt_done ?_ | refine wg_run ?_ | refine fk ?_ ?_) <;> (simp only [go_sem, int_bne]))) | (first | (refine wl_next (wg_run ?_); (simp only [go_sem])) | refine wd_rounds 6 ?_) | ((first | refine mx 6 [] follows ?_ | refine mx 5 [] follows ?_ | refine mx 4 [] follows ?_ | refine mx 3 [] follows ?_ | refine mx 2 [] follows ?_ | refine mx 1 [] follows ?_ | refine mx 0 [] follows ?_ | fail); (simp only [go_sem, int_bne])) | (first | refine cd (hc := va) (hK := ?_) | refine cm (hc := va) (hK := ?_) | refine ct (hc := va) (hK := ?_)); (simp only [go_sem]) | (first | refine cd (hc := h1) (hK := ?_) | refine cm (hc := h1) (hK := ?_) | refine ct (hc := h1) (hK := ?_)); (simp only [go_sem]) | fail)
        all_goals (refine hR _ ?_; refine rat [] (hK := ⟨rfl, rfl⟩))
    · rw [ea] at va
      simp only []
      cases eb : b.val
      · rw [eb] at vb
        have h1 := ihb hw.2 hn.2 eb (by omega)
        cases es : b.step
        all_goals
          rw [es] at h1
          simp only [SR.map, srS, SR.tm, SR.code, SR.lab] at h1 ⊢
          simp only [E.tm, nd]
          refine fn_in ?_; refine acl_in Try.func72 rfl isfn_72 (Nat.le_of_ble_eq_true rfl) (fun R hR => ?_); rw [Try.results72] at hR; refine wg_run ?_; (simp only [Try.f72, go_sem])
          repeat' (first | (first | (simp only [go_sem, int_bne]) | (((first | refine sp1 ?_ ?_ | refine sp2 ?_ ?_ | refine sp3 ?_ ?_ | refine sp4 ?_ ?_ | refine sp5 ?_ ?_ | refine sp6 ?_ ?_ | refine sp7 ?_ ?_) <;> intro hb) <;> (simp only [go_sem, hb, int_bne])) | ((first | refine wm_done ?_ | refine wt_done ?_ | refine wg_run ?_ | refine fk ?_ ?_) <;> (simp only [go_sem, int_bne]))) | (first | (refine wl_next (wg_run ?_); (simp only [go_sem])) | refine wd_rounds 6 ?_) | ((first | refine mx 6 [] follows ?_ | refine mx 5 [] follows ?_ | refine mx 4 [] follows ?_ | refine mx 3 [] follows ?_ | refine mx 2 [] follows ?_ | refine mx 1 [] follows ?_ | refine mx 0 [] follows ?_ | fail); (simp only [go_sem, int_bne])) | (first | refine cd (hc := va) (hK := ?_) | refine cm (hc := va) (hK := ?_) | refine ct (hc := va) (hK := ?_)); (simp only [go_sem]) | (first | refine cd (hc := vb) (hK := ?_) | refine cm (hc := vb) (hK := ?_) | refine ct (hc := vb) (hK := ?_)); (simp only [go_sem]) | (first | refine cd (hc := h1) (hK := ?_) | refine cm (hc := h1) (hK := ?_) | refine ct (hc := h1) (hK := ?_)); (simp only [go_sem]) | fail)
          all_goals (refine hR _ ?_; refine rat [] (hK := ⟨rfl, rfl⟩))
      · simp [E.val, ea, eb] at hv
  | fst a ih =>
    intro hw hn hv hz
    have hr := sReduce (.fst a) hw hz rfl
    simp only [E.wf, E.noA, Bool.and_eq_true] at hw hn
    simp only [E.tm, nd, Tm.size, Tm.sizes] at hz
    have va := sIsVal a hw
    rw [E.val_tm] at va
    simp only [E.step]
    cases ea : a.val
    · rw [ea] at va
      have h1 := ih hw hn ea (by omega)
      cases es : a.step
      all_goals
        rw [es] at h1
        simp only [SR.map, srS, SR.tm, SR.code, SR.lab] at h1 ⊢
        simp only [E.tm, nd]
        refine fn_in ?_; refine acl_in Try.func72 rfl isfn_72 (Nat.le_of_ble_eq_true rfl) (fun R hR => ?_); rw [Try.results72] at hR; refine wg_run ?_; (simp only [Try.f72, go_sem])
        repeat' (first | (first | (simp only [go_sem, int_bne]) | (((first | refine sp1 ?_ ?_ | refine sp2 ?_ ?_ | refine sp3 ?_ ?_ | refine sp4 ?_ ?_ | refine sp5 ?_ ?_ | refine sp6 ?_ ?_ | refine sp7 ?_ ?_) <;> intro hb) <;> (simp only [go_sem, hb, int_bne])) | ((first | refine wm_done ?_ | refine wt_done ?_ | refine wg_run ?_ | refine fk ?_ ?_) <;> (simp only [go_sem, int_bne]))) | (first | (refine wl_next (wg_run ?_); (simp only [go_sem])) | refine wd_rounds 6 ?_) | ((first | refine mx 6 [] follows ?_ | refine mx 5 [] follows ?_ | refine mx 4 [] follows ?_ | refine mx 3 [] follows ?_ | refine mx 2 [] follows ?_ | refine mx 1 [] follows ?_ | refine mx 0 [] follows ?_ | fail); (simp only [go_sem, int_bne])) | (first | refine cd (hc := va) (hK := ?_) | refine cm (hc := va) (hK := ?_) | refine ct (hc := va) (hK := ?_)); (simp only [go_sem]) | (first | refine cd (hc := h1) (hK := ?_) | refine cm (hc := h1) (hK := ?_) | refine ct (hc := h1) (hK := ?_)); (simp only [go_sem]) | fail)
        all_goals (refine hR _ ?_; refine rat [] (hK := ⟨rfl, rfl⟩))
    · rw [ea] at va
      rw [red_fst] at hr
      simp only []
      simp only [E.tm, nd] at hr ⊢
      unfold srS at hr ⊢
      refine fn_in ?_; refine acl_in Try.func72 rfl isfn_72 (Nat.le_of_ble_eq_true rfl) (fun R hR => ?_); rw [Try.results72] at hR; refine wg_run ?_; (simp only [Try.f72, go_sem])
      repeat' (first | (first | (simp only [go_sem, int_bne]) | (((first | refine sp1 ?_ ?_ | refine sp2 ?_ ?_ | refine sp3 ?_ ?_ | refine sp4 ?_ ?_ | refine sp5 ?_ ?_ | refine sp6 ?_ ?_ | refine sp7 ?_ ?_) <;> intro hb) <;> (simp only [go_sem, hb, int_bne])) | ((first | refine wm_done ?_ | refine wt_done ?_ | refine wg_run ?_ | refine fk ?_ ?_) <;> (simp only [go_sem, int_bne]))) | (first | (refine wl_next (wg_run ?_); (simp only [go_sem])) | refine wd_rounds 6 ?_) | ((first | refine mx 6 [] follows ?_ | refine mx 5 [] follows ?_ | refine mx 4 [] follows ?_ | refine mx 3 [] follows ?_ | refine mx 2 [] follows ?_ | refine mx 1 [] follows ?_ | refine mx 0 [] follows ?_ | fail); (simp only [go_sem, int_bne])) | (first | refine cd (hc := va) (hK := ?_) | refine cm (hc := va) (hK := ?_) | refine ct (hc := va) (hK := ?_)); (simp only [go_sem]) | (first | refine cd (hc := hr) (hK := ?_) | refine cm (hc := hr) (hK := ?_) | refine ct (hc := hr) (hK := ?_)); (simp only [go_sem]) | fail)
      all_goals (refine hR _ ?_; refine rat [] (hK := ⟨rfl, rfl⟩))
  | snd a ih =>
    intro hw hn hv hz
    have hr := sReduce (.snd a) hw hz rfl
    simp only [E.wf, E.noA, Bool.and_eq_true] at hw hn
    simp only [E.tm, nd, Tm.size, Tm.sizes] at hz
    have va := sIsVal a hw
    rw [E.val_tm] at va
    simp only [E.step]
    cases ea : a.val
    · rw [ea] at va
      have h1 := ih hw hn ea (by omega)
      cases es : a.step
      all_goals
        rw [es] at h1
        simp only [SR.map, srS, SR.tm, SR.code, SR.lab] at h1 ⊢
        simp only [E.tm, nd]
        refine fn_in ?_; refine acl_in Try.func72 rfl isfn_72 (Nat.le_of_ble_eq_true rfl) (fun R hR => ?_); rw [Try.results72] at hR; refine wg_run ?_; (simp only [Try.f72, go_sem])
        repeat' (first | (first | (simp only [go_sem, int_bne]) | (((first | refine sp1 ?_ ?_ | refine sp2 ?_ ?_ | refine sp3 ?_ ?_ | refine sp4 ?_ ?_ | refine sp5 ?_ ?_ | refine sp6 ?_ ?_ | refine sp7 ?_ ?_) <;> intro hb) <;> (simp only [go_sem, hb, int_bne])) | ((first | refine wm_done ?_ | refine wt_done ?_ | refine wg_run ?_ | refine fk ?_ ?_) <;> (simp only [go_sem, int_bne]))) | (first | (refine wl_next (wg_run ?_); (simp only [go_sem])) | refine wd_rounds 6 ?_) | ((first | refine mx 6 [] follows ?_ | refine mx 5 [] follows ?_ | refine mx 4 [] follows ?_ | refine mx 3 [] follows ?_ | refine mx 2 [] follows ?_ | refine mx 1 [] follows ?_ | refine mx 0 [] follows ?_ | fail); (simp only [go_sem, int_bne])) | (first | refine cd (hc := va) (hK := ?_) | refine cm (hc := va) (hK := ?_) | refine ct (hc := va) (hK := ?_)); (simp only [go_sem]) | (first | refine cd (hc := h1) (hK := ?_) | refine cm (hc := h1) (hK := ?_) | refine ct (hc := h1) (hK := ?_)); (simp only [go_sem]) | fail)
        all_goals (refine hR _ ?_; refine rat [] (hK := ⟨rfl, rfl⟩))
    · rw [ea] at va
      rw [red_snd] at hr
      simp only []
      simp only [E.tm, nd] at hr ⊢
      unfold srS at hr ⊢
      refine fn_in ?_; refine acl_in Try.func72 rfl isfn_72 (Nat.le_of_ble_eq_true rfl) (fun R hR => ?_); rw [Try.results72] at hR; refine wg_run ?_; (simp only [Try.f72, go_sem])
      repeat' (first | (first | (simp only [go_sem, int_bne]) | (((first | refine sp1 ?_ ?_ | refine sp2 ?_ ?_ | refine sp3 ?_ ?_ | refine sp4 ?_ ?_ | refine sp5 ?_ ?_ | refine sp6 ?_ ?_ | refine sp7 ?_ ?_) <;> intro hb) <;> (simp only [go_sem, hb, int_bne])) | ((first | refine wm_done ?_ | refine wt_done ?_ | refine wg_run ?_ | refine fk ?_ ?_) <;> (simp only [go_sem, int_bne]))) | (first | (refine wl_next (wg_run ?_); (simp only [go_sem])) | refine wd_rounds 6 ?_) | ((first | refine mx 6 [] follows ?_ | refine mx 5 [] follows ?_ | refine mx 4 [] follows ?_ | refine mx 3 [] follows ?_ | refine mx 2 [] follows ?_ | refine mx 1 [] follows ?_ | refine mx 0 [] follows ?_ | fail); (simp only [go_sem, int_bne])) | (first | refine cd (hc := va) (hK := ?_) | refine cm (hc := va) (hK := ?_) | refine ct (hc := va) (hK := ?_)); (simp only [go_sem]) | (first | refine cd (hc := hr) (hK := ?_) | refine cm (hc := hr) (hK := ?_) | refine ct (hc := hr) (hK := ?_)); (simp only [go_sem]) | fail)
      all_goals (refine hR _ ?_; refine rat [] (hK := ⟨rfl, rfl⟩))
  | cast s t l a ih =>
    intro hw hn hv hz
    have hr := sReduce (.cast s t l a) hw hz rfl
    simp only [E.wf, E.noA, Bool.and_eq_true] at hw hn
    simp only [E.tm, nd, Tm.size, Tm.sizes] at hz
    have va := sIsVal a hw.2.2.2
    rw [E.val_tm] at va
    simp only [E.step]
    cases ea : a.val
    · rw [ea] at va
      have h1 := ih hw.2.2.2 hn ea (by omega)
      cases es : a.step
      all_goals
        rw [es] at h1
        simp only [SR.map, srS, SR.tm, SR.code, SR.lab] at h1 ⊢
        simp only [E.tm, nd]
        refine fn_in ?_; refine acl_in Try.func72 rfl isfn_72 (Nat.le_of_ble_eq_true rfl) (fun R hR => ?_); rw [Try.results72] at hR; refine wg_run ?_; (simp only [Try.f72, go_sem])
        repeat' (first | (first | (simp only [go_sem, int_bne]) | (((first | refine sp1 ?_ ?_ | refine sp2 ?_ ?_ | refine sp3 ?_ ?_ | refine sp4 ?_ ?_ | refine sp5 ?_ ?_ | refine sp6 ?_ ?_ | refine sp7 ?_ ?_) <;> intro hb) <;> (simp only [go_sem, hb, int_bne])) | ((first | refine wm_done ?_ | refine wt_done ?_ | refine wg_run ?_ | refine fk ?_ ?_) <;> (simp only [go_sem, int_bne]))) | (first | (refine wl_next (wg_run ?_); (simp only [go_sem])) | refine wd_rounds 6 ?_) | ((first | refine mx 6 [] follows ?_ | refine mx 5 [] follows ?_ | refine mx 4 [] follows ?_ | refine mx 3 [] follows ?_ | refine mx 2 [] follows ?_ | refine mx 1 [] follows ?_ | refine mx 0 [] follows ?_ | fail); (simp only [go_sem, int_bne])) | (first | refine cd (hc := va) (hK := ?_) | refine cm (hc := va) (hK := ?_) | refine ct (hc := va) (hK := ?_)); (simp only [go_sem]) | (first | refine cd (hc := h1) (hK := ?_) | refine cm (hc := h1) (hK := ?_) | refine ct (hc := h1) (hK := ?_)); (simp only [go_sem]) | fail)
        all_goals (refine hR _ ?_; refine rat [] (hK := ⟨rfl, rfl⟩))
    · rw [ea] at va
      rw [red_cast] at hr
      simp only []
      simp only [E.tm, nd] at hr ⊢
      unfold srS at hr ⊢
      refine fn_in ?_; refine acl_in Try.func72 rfl isfn_72 (Nat.le_of_ble_eq_true rfl) (fun R hR => ?_); rw [Try.results72] at hR; refine wg_run ?_; (simp only [Try.f72, go_sem])
      repeat' (first | (first | (simp only [go_sem, int_bne]) | (((first | refine sp1 ?_ ?_ | refine sp2 ?_ ?_ | refine sp3 ?_ ?_ | refine sp4 ?_ ?_ | refine sp5 ?_ ?_ | refine sp6 ?_ ?_ | refine sp7 ?_ ?_) <;> intro hb) <;> (simp only [go_sem, hb, int_bne])) | ((first | refine wm_done ?_ | refine wt_done ?_ | refine wg_run ?_ | refine fk ?_ ?_) <;> (simp only [go_sem, int_bne]))) | (first | (refine wl_next (wg_run ?_); (simp only [go_sem])) | refine wd_rounds 6 ?_) | ((first | refine mx 6 [] follows ?_ | refine mx 5 [] follows ?_ | refine mx 4 [] follows ?_ | refine mx 3 [] follows ?_ | refine mx 2 [] follows ?_ | refine mx 1 [] follows ?_ | refine mx 0 [] follows ?_ | fail); (simp only [go_sem, int_bne])) | (first | refine cd (hc := va) (hK := ?_) | refine cm (hc := va) (hK := ?_) | refine ct (hc := va) (hK := ?_)); (simp only [go_sem]) | (first | refine cd (hc := hr) (hK := ?_) | refine cm (hc := hr) (hK := ?_) | refine ct (hc := hr) (hK := ?_)); (simp only [go_sem]) | fail)
      all_goals (refine hR _ ?_; refine rat [] (hK := ⟨rfl, rfl⟩))
  | ite a b c iha ihb ihc =>
    intro hw hn hv hz
    simp only [E.wf, E.noA, Bool.and_eq_true] at hw hn
    simp only [E.tm, nd, Tm.size, Tm.sizes] at hz
    have va := sIsVal a hw.1
    rw [E.val_tm] at va
    simp only [E.step]
    cases ea : a.val
    · rw [ea] at va
      have h1 := iha hw.1 hn.1 ea (by omega)
      cases es : a.step
      all_goals
        rw [es] at h1
        simp only [SR.map, srS, SR.tm, SR.code, SR.lab] at h1 ⊢
        simp only [E.tm, nd]
        refine fn_in ?_; refine acl_in Try.func72 rfl isfn_72 (Nat.le_of_ble_eq_true rfl) (fun R hR => ?_); rw [Try.results72] at hR; refine wg_run ?_; (simp only [Try.f72, go_sem])
        repeat' (first | (first | (simp only [go_sem, int_bne]) | (((first | refine sp1 ?_ ?_ | refine sp2 ?_ ?_ | refine sp3 ?_ ?_ | refine sp4 ?_ ?_ | refine sp5 ?_ ?_ | refine sp6 ?_ ?_ | refine sp7 ?_ ?_) <;> intro hb) <;> (simp only [go_sem, hb, int_bne])) | ((first | refine wm_done ?_ | refine wt_done ?_ | refine wg_run ?_ | refine fk ?_ ?_) <;> (simp only [go_sem, int_bne]))) | (first | (refine wl_next (wg_run ?_); (simp only [go_sem])) | refine wd_rounds 6 ?_) | ((first | refine mx 6 [] follows ?_ | refine mx 5 [] follows ?_ | refine mx 4 [] follows ?_ | refine mx 3 [] follows ?_ | refine mx 2 [] follows ?_ | refine mx 1 [] follows ?_ | refine mx 0 [] follows ?_ | fail); (simp only [go_sem, int_bne])) | (first | refine cd (hc := va) (hK := ?_) | refine cm (hc := va) (hK := ?_) | refine ct (hc := va) (hK := ?_)); (simp only [go_sem]) | (first | refine cd (hc := h1) (hK := ?_) | refine cm (hc := h1) (hK := ?_) | refine ct (hc := h1) (hK := ?_)); (simp only [go_sem]) | fail)
        all_goals (refine hR _ ?_; refine rat [] (hK := ⟨rfl, rfl⟩))
    · rw [ea] at va
      cases a <;> simp only [E.val, Bool.false_eq_true] at ea
      all_goals
        simp only [ruleIte, srS, SR.tm, SR.code, SR.lab]
        simp only [E.tm, nd] at va ⊢
        refine fn_in ?_; refine acl_in Try.func72 rfl isfn_72 (Nat.le_of_ble_eq_true rfl) (fun R hR => ?_); rw [Try.results72] at hR; refine wg_run ?_; (simp only [Try.f72, go_sem])
        repeat' (first | (first | (simp only [go_sem, int_bne]) | (((first | refine sp1 ?_ ?_ | refine sp2 ?_ ?_ | refine sp3 ?_ ?_ | refine sp4 ?_ ?_ | refine sp5 ?_ ?_ | refine sp6 ?_ ?_ | refine sp7 ?_ ?_) <;> intro hb) <;> (simp only [go_sem, hb, int_bne])) | ((first | refine wm_done ?_ | refine wt_done ?_ | refine wg_run ?_ | refine fk ?_ ?_) <;> (simp only [go_sem, int_bne]))) | (first | (refine wl_next (wg_run ?_); (simp only [go_sem])) | refine wd_rounds 6 ?_) | ((first | refine mx 6 [] follows ?_ | refine mx 5 [] follows ?_ | refine mx 4 [] follows ?_ | refine mx 3 [] follows ?_ | refine mx 2 [] follows ?_ | refine mx 1 [] follows ?_ | refine mx 0 [] follows ?_ | fail); (simp only [go_sem, int_bne])) | (first | refine cd (hc := va) (hK := ?_) | refine cm (hc := va) (hK := ?_) | refine ct (hc := va) (hK := ?_)); (simp only [go_sem]) | fail)
        all_goals (refine hR _ ?_; refine rat [] (hK := ⟨rfl, rfl⟩))
  | var x =>
    intro hw hn hv hz
    have hr := sReduce (.var x) hw hz rfl
    simp only [E.step]
    simp only [E.red, E.ruleI, E.castR] at hr
    simp only [E.tm, nd] at hr ⊢
    unfold srS at hr ⊢
    refine fn_in ?_; refine acl_in Try.func72 rfl isfn_72 (Nat.le_of_ble_eq_true rfl) (fun R hR => ?_); rw [Try.results72] at hR; refine wg_run ?_; (simp only [Try.f72, go_sem])
    repeat' (first | (first | (simp only [go_sem, int_bne]) | (((first | refine sp1 ?_ ?_ | refine sp2 ?_ ?_ | refine sp3 ?_ ?_ | refine sp4 ?_ ?_ | refine sp5 ?_ ?_ | refine sp6 ?_ ?_ | refine sp7 ?_ ?_) <;> intro hb) <;> (simp only [go_sem, hb, int_bne])) | ((first | refine wm_done ?_ | refine wt_done ?_ | refine wg_run ?_ | refine fk ?_ ?_) <;> (simp only [go_sem, int_bne]))) | (first | (refine wl_next (wg_run ?_); (simp only [go_sem])) | refine wd_rounds 6 ?_) | ((first | refine mx 6 [] follows ?_ | refine mx 5 [] follows ?_ | refine mx 4 [] follows ?_ | refine mx 3 [] follows ?_ | refine mx 2 [] follows ?_ | refine mx 1 [] follows ?_ | refine mx 0 [] follows ?_ | fail); (simp only [go_sem, int_bne])) | (first | refine cd (hc := hr) (hK := ?_) | refine cm (hc := hr) (hK := ?_) | refine ct (hc := hr) (hK := ?_)); (simp only [go_sem]) | fail)
    all_goals (refine hR _ ?_; refine rat [] (hK := ⟨rfl, rfl⟩))
  | num _ | tru | fls => intro _ _ hv; simp [E.val] at hv
  | lam _ _ a ih => intro _ _ hv; simp [E.val] at hv
  | _ => intro _ hn; simp [E.noA] at hn
end Go.Proofs.Ytnaebafafhamjaa
/- Evaluation of terms with casts, in the program and in the reference. On shadows. -/
namespace Go.Proofs.Ytnaebafafhamjaa
open Go.RowKit Go.Proofs.Sh Go.Proofs.Grad
set_option maxRecDepth 100000
set_option maxHeartbeats 8000000
theorem tm_nodes40 (e : E) : e.wf = true → e.tm.size ≤ 40 * e.nodes := by
  have hno : noTy.size = 1 := rfl
  induction e with
  | var _ | num _ | tru | fls => intro _; simp only [E.tm, nd, Tm.size, Tm.sizes, hno, E.nodes]; omega
  | lam x t a ih => intro hw; simp only [E.wf, Bool.and_eq_true, decide_eq_true_eq] at hw; have := ih hw.2.2; have := (Ty.valid_16 (t := t.ty) (by rw [T.valid_ty]; simpa using hw.2.1)); simp only [E.tm, nd, Tm.size, Tm.sizes, hno, E.nodes]; omega
  | app a b iha ihb | add a b iha ihb | less a b iha ihb | pair a b iha ihb => intro hw; simp only [E.wf, Bool.and_eq_true] at hw; have := iha hw.1; have := ihb hw.2; simp only [E.tm, nd, Tm.size, Tm.sizes, hno, E.nodes]; omega
  | ite a b c iha ihb ihc => intro hw; simp only [E.wf, Bool.and_eq_true] at hw; have := iha hw.1; have := ihb hw.2.1; have := ihc hw.2.2; simp only [E.tm, nd, Tm.size, Tm.sizes, hno, E.nodes]; omega
  | fst a ih | snd a ih => intro hw; have := ih hw; simp only [E.tm, nd, Tm.size, Tm.sizes, hno, E.nodes]; omega
  | asc t a ih => intro hw; simp only [E.wf, Bool.and_eq_true, decide_eq_true_eq] at hw; have := ih hw.2; have := (Ty.valid_16 (t := t.ty) (by rw [T.valid_ty]; simpa using hw.1)); simp only [E.tm, nd, Tm.size, Tm.sizes, hno, E.nodes]; omega
  | cast s t l a ih => intro hw; simp only [E.wf, Bool.and_eq_true, decide_eq_true_eq] at hw; have := ih hw.2.2.2; have := (Ty.valid_16 (t := t.ty) (by rw [T.valid_ty]; simpa using hw.1.2)); have := (Ty.valid_16 (t := s.ty) (by rw [T.valid_ty]; simpa using hw.1.1)); simp only [E.tm, nd, Tm.size, Tm.sizes, hno, E.nodes]; omega
theorem okC_small {e : E} (h : e.okC = true) : e.tm.size < 100000000 := by
  simp only [E.okC, Bool.and_eq_true, decide_eq_true_eq] at h
  have := tm_nodes40 e h.1
  omega
def scT (r : SC) : AV := .tup [.agg (teC r.tm), .one (.sc (.int .i64 r.code)), .one (.sc (.int .i64 r.lab))]
def badT : AV := .tup [.agg (teC tm0), .one (.sc (.int .i64 3)), .one (.sc (.int .i64 0))]
theorem code_took {r : SR} (h : (r.code == 1) = true) : ∃ x, r = .took x := by
  cases r with
  | took x => exact ⟨x, rfl⟩
  | _ => simp [SR.code] at h
theorem iStepBad (t : Tm) (h : t.castV = false) : AFn Try.prog 26 [.agg (teC t)] badT := by
  have hv := iCastV t
  rw [h] at hv
  unfold badT
  simp only [tm0, noTy]
  refine fn_in ?_; refine acl_in Try.func26 rfl isfn_26 (Nat.le_of_ble_eq_true rfl) (fun R hR => ?_); rw [Try.results26] at hR; refine wg_run ?_; (simp only [Try.f26, go_sem])
  repeat' (first | (first | (simp only [go_sem, int_bne]) | (((first | refine sp1 ?_ ?_ | refine sp2 ?_ ?_ | refine sp3 ?_ ?_ | refine sp4 ?_ ?_ | refine sp5 ?_ ?_ | refine sp6 ?_ ?_ | refine sp7 ?_ ?_) <;> intro hb) <;> (simp only [go_sem, hb, int_bne])) | ((first | refine wm_done ?_ | refine wt_done ?_ | refine wg_run ?_ | refine fk ?_ ?_) <;> (simp only [go_sem, int_bne]))) | (first | refine cd (hc := hv) (hK := ?_) | refine cm (hc := hv) (hK := ?_) | refine ct (hc := hv) (hK := ?_)); (simp only [go_sem]) | fail)
  all_goals (refine hR _ ?_; refine rat [] (hK := ⟨rfl, rfl⟩))
theorem iStepCast (e : E) (h : e.okC = true) : AFn Try.prog 26 [.agg (teC e.tm)] (scT e.sc) := by
  have hz := okC_small h
  have hv := iCastV e.tm
  rw [E.castV_tm, h] at hv
  have hval := iIsVal 100000000 (by omega) e.tm hz
  rw [E.val_tm] at hval
  simp only [E.okC, Bool.and_eq_true] at h
  have ho := iOwn e h.1
  unfold E.sc
  cases ev : e.val
  · rw [ev] at hval
    have hs := iStep e h.1 h.2.1 ev hz
    simp only [stT] at hs
    simp only []
    cases es : e.step with
    | took x =>
      rw [E.so_took e x ev es, es] at hs
      obtain ⟨xw, xn⟩ := E.step_wf h.1 h.2.1 es
      have hv2 := iCastV x.tm
      rw [E.castV_tm] at hv2
      have ho2 := iOwn x xw
      simp only [SR.code, SR.lab] at hs
      simp only []
      cases eo : x.okC
      all_goals
        rw [eo] at hv2
        simp only [scT, SC.tm, SC.code, SC.lab]
        (try simp only [tm0, noTy])
        refine fn_in ?_; refine acl_in Try.func26 rfl isfn_26 (Nat.le_of_ble_eq_true rfl) (fun R hR => ?_); rw [Try.results26] at hR; refine wg_run ?_; (simp only [Try.f26, go_sem])
        repeat' (first | (first | (simp only [go_sem, int_bne]) | (((first | refine sp1 ?_ ?_ | refine sp2 ?_ ?_ | refine sp3 ?_ ?_ | refine sp4 ?_ ?_ | refine sp5 ?_ ?_ | refine sp6 ?_ ?_ | refine sp7 ?_ ?_) <;> intro hb) <;> (simp only [go_sem, hb, int_bne])) | ((first | refine wm_done ?_ | refine wt_done ?_ | refine wg_run ?_ | refine fk ?_ ?_) <;> (simp only [go_sem, int_bne]))) | (first | refine cd (hc := hv) (hK := ?_) | refine cm (hc := hv) (hK := ?_) | refine ct (hc := hv) (hK := ?_)); (simp only [go_sem]) | (first | refine cd (hc := hval) (hK := ?_) | refine cm (hc := hval) (hK := ?_) | refine ct (hc := hval) (hK := ?_)); (simp only [go_sem]) | (first | refine cd (hc := hs) (hK := ?_) | refine cm (hc := hs) (hK := ?_) | refine ct (hc := hs) (hK := ?_)); (simp only [go_sem]) | (first | refine cd (hc := hv2) (hK := ?_) | refine cm (hc := hv2) (hK := ?_) | refine ct (hc := hv2) (hK := ?_)); (simp only [go_sem]) | (first | refine cd (hc := ho2) (hK := ?_) | refine cm (hc := ho2) (hK := ?_) | refine ct (hc := ho2) (hK := ?_)); (simp only [go_sem]) | fail)
        all_goals (refine hR _ ?_; refine rat [] (hK := ⟨rfl, rfl⟩))
    | blame l =>
      rw [es] at hs
      simp only [SR.code, SR.lab] at hs
      simp only [scT, SC.tm, SC.code, SC.lab]
      simp only [tm0, noTy]
      refine fn_in ?_; refine acl_in Try.func26 rfl isfn_26 (Nat.le_of_ble_eq_true rfl) (fun R hR => ?_); rw [Try.results26] at hR; refine wg_run ?_; (simp only [Try.f26, go_sem])
      repeat' (first | (first | (simp only [go_sem, int_bne]) | (((first | refine sp1 ?_ ?_ | refine sp2 ?_ ?_ | refine sp3 ?_ ?_ | refine sp4 ?_ ?_ | refine sp5 ?_ ?_ | refine sp6 ?_ ?_ | refine sp7 ?_ ?_) <;> intro hb) <;> (simp only [go_sem, hb, int_bne])) | ((first | refine wm_done ?_ | refine wt_done ?_ | refine wg_run ?_ | refine fk ?_ ?_) <;> (simp only [go_sem, int_bne]))) | (first | refine cd (hc := hv) (hK := ?_) | refine cm (hc := hv) (hK := ?_) | refine ct (hc := hv) (hK := ?_)); (simp only [go_sem]) | (first | refine cd (hc := hval) (hK := ?_) | refine cm (hc := hval) (hK := ?_) | refine ct (hc := hval) (hK := ?_)); (simp only [go_sem]) | (first | refine cd (hc := hs) (hK := ?_) | refine cm (hc := hs) (hK := ?_) | refine ct (hc := hs) (hK := ?_)); (simp only [go_sem]) | fail)
      all_goals (refine hR _ ?_; refine rat [] (hK := ⟨rfl, rfl⟩))
    | stuck =>
      rw [es] at hs
      simp only [SR.code, SR.lab] at hs
      simp only [scT, SC.tm, SC.code, SC.lab]
      simp only [tm0, noTy]
      refine fn_in ?_; refine acl_in Try.func26 rfl isfn_26 (Nat.le_of_ble_eq_true rfl) (fun R hR => ?_); rw [Try.results26] at hR; refine wg_run ?_; (simp only [Try.f26, go_sem])
      repeat' (first | (first | (simp only [go_sem, int_bne]) | (((first | refine sp1 ?_ ?_ | refine sp2 ?_ ?_ | refine sp3 ?_ ?_ | refine sp4 ?_ ?_ | refine sp5 ?_ ?_ | refine sp6 ?_ ?_ | refine sp7 ?_ ?_) <;> intro hb) <;> (simp only [go_sem, hb, int_bne])) | ((first | refine wm_done ?_ | refine wt_done ?_ | refine wg_run ?_ | refine fk ?_ ?_) <;> (simp only [go_sem, int_bne]))) | (first | refine cd (hc := hv) (hK := ?_) | refine cm (hc := hv) (hK := ?_) | refine ct (hc := hv) (hK := ?_)); (simp only [go_sem]) | (first | refine cd (hc := hval) (hK := ?_) | refine cm (hc := hval) (hK := ?_) | refine ct (hc := hval) (hK := ?_)); (simp only [go_sem]) | (first | refine cd (hc := hs) (hK := ?_) | refine cm (hc := hs) (hK := ?_) | refine ct (hc := hs) (hK := ?_)); (simp only [go_sem]) | fail)
      all_goals (refine hR _ ?_; refine rat [] (hK := ⟨rfl, rfl⟩))
  · rw [ev] at hval
    simp only [scT, SC.tm, SC.code, SC.lab]
    refine fn_in ?_; refine acl_in Try.func26 rfl isfn_26 (Nat.le_of_ble_eq_true rfl) (fun R hR => ?_); rw [Try.results26] at hR; refine wg_run ?_; (simp only [Try.f26, go_sem])
    repeat' (first | (first | (simp only [go_sem, int_bne]) | (((first | refine sp1 ?_ ?_ | refine sp2 ?_ ?_ | refine sp3 ?_ ?_ | refine sp4 ?_ ?_ | refine sp5 ?_ ?_ | refine sp6 ?_ ?_ | refine sp7 ?_ ?_) <;> intro hb) <;> (simp only [go_sem, hb, int_bne])) | ((first | refine wm_done ?_ | refine wt_done ?_ | refine wg_run ?_ | refine fk ?_ ?_) <;> (simp only [go_sem, int_bne]))) | (first | refine cd (hc := hv) (hK := ?_) | refine cm (hc := hv) (hK := ?_) | refine ct (hc := hv) (hK := ?_)); (simp only [go_sem]) | (first | refine cd (hc := hval) (hK := ?_) | refine cm (hc := hval) (hK := ?_) | refine ct (hc := hval) (hK := ?_)); (simp only [go_sem]) | (first | refine cd (hc := ho) (hK := ?_) | refine cm (hc := ho) (hK := ?_) | refine ct (hc := ho) (hK := ?_)); (simp only [go_sem]) | fail)
    all_goals (refine hR _ ?_; refine rat [] (hK := ⟨rfl, rfl⟩))
theorem sStepBad (t : Tm) (h : t.castV = false) (hz : t.size < 4611686018427387904) : AFn Try.prog 25 [.agg (teC t)] badT := by
  have hv := sCastV t hz
  rw [h] at hv
  unfold badT
  simp only [tm0, noTy]
  refine fn_in ?_; refine acl_in Try.func25 rfl isfn_25 (Nat.le_of_ble_eq_true rfl) (fun R hR => ?_); rw [Try.results25] at hR; refine wg_run ?_; (simp only [Try.f25, go_sem])
  repeat' (first | (first | (simp only [go_sem, int_bne]) | (((first | refine sp1 ?_ ?_ | refine sp2 ?_ ?_ | refine sp3 ?_ ?_ | refine sp4 ?_ ?_ | refine sp5 ?_ ?_ | refine sp6 ?_ ?_ | refine sp7 ?_ ?_) <;> intro hb) <;> (simp only [go_sem, hb, int_bne])) | ((first | refine wm_done ?_ | refine wt_done ?_ | refine wg_run ?_ | refine fk ?_ ?_) <;> (simp only [go_sem, int_bne]))) | (first | refine cd (hc := hv) (hK := ?_) | refine cm (hc := hv) (hK := ?_) | refine ct (hc := hv) (hK := ?_)); (simp only [go_sem]) | fail)
  all_goals (refine hR _ ?_; refine rat [] (hK := ⟨rfl, rfl⟩))
theorem sStepCast (e : E) (h : e.okC = true) : AFn Try.prog 25 [.agg (teC e.tm)] (scT e.sc) := by
  have hz := okC_small h
  have hv := sCastV e.tm (by omega)
  rw [E.castV_tm, h] at hv
  simp only [E.okC, Bool.and_eq_true] at h
  have hval := sIsVal e h.1
  rw [E.val_tm] at hval
  have ho := l2Copy 274877906944 (by omega) e.tm (by omega)
  unfold E.sc
  cases ev : e.val
  · rw [ev] at hval
    have hs := sStep e h.1 h.2.1 ev hz
    simp only [srS] at hs
    simp only []
    cases es : e.step with
    | took x =>
      rw [es] at hs
      obtain ⟨xw, xn⟩ := E.step_wf h.1 h.2.1 es
      have hxz : x.tm.size < 1000000000 := by have h4 := E.step_nodes es (of_decide_eq_true h.2.2.2); have := tm_nodes40 x xw; omega
      have hv2 := sCastV x.tm (by omega)
      rw [E.castV_tm] at hv2
      have ho2 := l2Copy 274877906944 (by omega) x.tm (by omega)
      simp only [SR.code, SR.lab, SR.tm] at hs
      simp only []
      cases eo : x.okC
      all_goals
        rw [eo] at hv2
        simp only [scT, SC.tm, SC.code, SC.lab]
        (try simp only [tm0, noTy])
        refine fn_in ?_; refine acl_in Try.func25 rfl isfn_25 (Nat.le_of_ble_eq_true rfl) (fun R hR => ?_); rw [Try.results25] at hR; refine wg_run ?_; (simp only [Try.f25, go_sem])
        repeat' (first | (first | (simp only [go_sem, int_bne]) | (((first | refine sp1 ?_ ?_ | refine sp2 ?_ ?_ | refine sp3 ?_ ?_ | refine sp4 ?_ ?_ | refine sp5 ?_ ?_ | refine sp6 ?_ ?_ | refine sp7 ?_ ?_) <;> intro hb) <;> (simp only [go_sem, hb, int_bne])) | ((first | refine wm_done ?_ | refine wt_done ?_ | refine wg_run ?_ | refine fk ?_ ?_) <;> (simp only [go_sem, int_bne]))) | (first | refine cd (hc := hv) (hK := ?_) | refine cm (hc := hv) (hK := ?_) | refine ct (hc := hv) (hK := ?_)); (simp only [go_sem]) | (first | refine cd (hc := hval) (hK := ?_) | refine cm (hc := hval) (hK := ?_) | refine ct (hc := hval) (hK := ?_)); (simp only [go_sem]) | (first | refine cd (hc := hs) (hK := ?_) | refine cm (hc := hs) (hK := ?_) | refine ct (hc := hs) (hK := ?_)); (simp only [go_sem]) | (first | refine cd (hc := hv2) (hK := ?_) | refine cm (hc := hv2) (hK := ?_) | refine ct (hc := hv2) (hK := ?_)); (simp only [go_sem]) | (first | refine cd (hc := ho2) (hK := ?_) | refine cm (hc := ho2) (hK := ?_) | refine ct (hc := ho2) (hK := ?_)); (simp only [go_sem]) | fail)
        all_goals (refine hR _ ?_; refine rat [] (hK := ⟨rfl, rfl⟩))
    | blame l =>
      rw [es] at hs
      simp only [SR.code, SR.lab, SR.tm] at hs
      simp only [scT, SC.tm, SC.code, SC.lab]
      simp only [tm0, noTy] at hs ⊢
      refine fn_in ?_; refine acl_in Try.func25 rfl isfn_25 (Nat.le_of_ble_eq_true rfl) (fun R hR => ?_); rw [Try.results25] at hR; refine wg_run ?_; (simp only [Try.f25, go_sem])
      repeat' (first | (first | (simp only [go_sem, int_bne]) | (((first | refine sp1 ?_ ?_ | refine sp2 ?_ ?_ | refine sp3 ?_ ?_ | refine sp4 ?_ ?_ | refine sp5 ?_ ?_ | refine sp6 ?_ ?_ | refine sp7 ?_ ?_) <;> intro hb) <;> (simp only [go_sem, hb, int_bne])) | ((first | refine wm_done ?_ | refine wt_done ?_ | refine wg_run ?_ | refine fk ?_ ?_) <;> (simp only [go_sem, int_bne]))) | (first | refine cd (hc := hv) (hK := ?_) | refine cm (hc := hv) (hK := ?_) | refine ct (hc := hv) (hK := ?_)); (simp only [go_sem]) | (first | refine cd (hc := hval) (hK := ?_) | refine cm (hc := hval) (hK := ?_) | refine ct (hc := hval) (hK := ?_)); (simp only [go_sem]) | (first | refine cd (hc := hs) (hK := ?_) | refine cm (hc := hs) (hK := ?_) | refine ct (hc := hs) (hK := ?_)); (simp only [go_sem]) | fail)
      all_goals (refine hR _ ?_; refine rat [] (hK := ⟨rfl, rfl⟩))
    | stuck =>
      rw [es] at hs
      simp only [SR.code, SR.lab, SR.tm] at hs
      simp only [scT, SC.tm, SC.code, SC.lab]
      simp only [tm0, noTy] at hs ⊢
      refine fn_in ?_; refine acl_in Try.func25 rfl isfn_25 (Nat.le_of_ble_eq_true rfl) (fun R hR => ?_); rw [Try.results25] at hR; refine wg_run ?_; (simp only [Try.f25, go_sem])
      repeat' (first | (first | (simp only [go_sem, int_bne]) | (((first | refine sp1 ?_ ?_ | refine sp2 ?_ ?_ | refine sp3 ?_ ?_ | refine sp4 ?_ ?_ | refine sp5 ?_ ?_ | refine sp6 ?_ ?_ | refine sp7 ?_ ?_) <;> intro hb) <;> (simp only [go_sem, hb, int_bne])) | ((first | refine wm_done ?_ | refine wt_done ?_ | refine wg_run ?_ | refine fk ?_ ?_) <;> (simp only [go_sem, int_bne]))) | (first | refine cd (hc := hv) (hK := ?_) | refine cm (hc := hv) (hK := ?_) | refine ct (hc := hv) (hK := ?_)); (simp only [go_sem]) | (first | refine cd (hc := hval) (hK := ?_) | refine cm (hc := hval) (hK := ?_) | refine ct (hc := hval) (hK := ?_)); (simp only [go_sem]) | (first | refine cd (hc := hs) (hK := ?_) | refine cm (hc := hs) (hK := ?_) | refine ct (hc := hs) (hK := ?_)); (simp only [go_sem]) | fail)
      all_goals (refine hR _ ?_; refine rat [] (hK := ⟨rfl, rfl⟩))
  · rw [ev] at hval
    simp only [scT, SC.tm, SC.code, SC.lab]
    refine fn_in ?_; refine acl_in Try.func25 rfl isfn_25 (Nat.le_of_ble_eq_true rfl) (fun R hR => ?_); rw [Try.results25] at hR; refine wg_run ?_; (simp only [Try.f25, go_sem])
    repeat' (first | (first | (simp only [go_sem, int_bne]) | (((first | refine sp1 ?_ ?_ | refine sp2 ?_ ?_ | refine sp3 ?_ ?_ | refine sp4 ?_ ?_ | refine sp5 ?_ ?_ | refine sp6 ?_ ?_ | refine sp7 ?_ ?_) <;> intro hb) <;> (simp only [go_sem, hb, int_bne])) | ((first | refine wm_done ?_ | refine wt_done ?_ | refine wg_run ?_ | refine fk ?_ ?_) <;> (simp only [go_sem, int_bne]))) | (first | refine cd (hc := hv) (hK := ?_) | refine cm (hc := hv) (hK := ?_) | refine ct (hc := hv) (hK := ?_)); (simp only [go_sem]) | (first | refine cd (hc := hval) (hK := ?_) | refine cm (hc := hval) (hK := ?_) | refine ct (hc := hval) (hK := ?_)); (simp only [go_sem]) | (first | refine cd (hc := ho) (hK := ?_) | refine cm (hc := ho) (hK := ?_) | refine ct (hc := ho) (hK := ?_)); (simp only [go_sem]) | fail)
    all_goals (refine hR _ ?_; refine rat [] (hK := ⟨rfl, rfl⟩))
end Go.Proofs.Ytnaebafafhamjaa
/- Casts that are nested directly. No program, no world. -/
namespace Go.Proofs.Grad
/-- the greatest number of casts nested directly; so many above -/
def E.pend : E → Nat → Nat
  | .var _, _ | .num _, _ | .tru, _ | .fls, _ => 0
  | .lam _ _ a, _ | .fst a, _ | .snd a, _ | .asc _ a, _ => a.pend 0
  | .app a b, _ | .add a b, _ | .less a b, _ | .pair a b, _ => max (a.pend 0) (b.pend 0)
  | .ite a b c, _ => max (max (a.pend 0) (b.pend 0)) (c.pend 0)
  | .cast _ _ _ a, k => max (k + 1) (a.pend (k + 1))
def E.lead : E → Nat | .cast _ _ _ a => a.lead + 1 | _ => 0
def E.nest : E → Nat
  | .var _ | .num _ | .tru | .fls => 0
  | .lam _ _ a | .fst a | .snd a | .asc _ a => a.nest
  | .app a b | .add a b | .less a b | .pair a b => max a.nest b.nest
  | .ite a b c => max (max a.nest b.nest) c.nest
  | .cast _ _ _ a => max (a.lead + 1) a.nest
theorem E.lead_nest (e : E) : e.lead ≤ e.nest := by cases e <;> simp only [E.lead, E.nest] <;> omega
theorem E.pend_eq (e : E) : ∀ k : Nat, e.pend k = max (match e.lead with | 0 => 0 | n + 1 => k + n + 1) e.nest := by
  have hz : ∀ x : E, max (match x.lead with | 0 => 0 | n + 1 => 0 + n + 1) x.nest = x.nest := by
    intro x
    have := x.lead_nest
    cases h : x.lead with
    | zero => simp
    | succ n => simp only []; omega
  induction e with
  | cast s t l a ih =>
    intro k
    simp only [E.pend, E.lead, E.nest, ih]
    have := a.lead_nest
    cases h : a.lead with
    | zero => simp only []; omega
    | succ n => simp only []; omega
  | var _ | num _ | tru | fls => intro k; simp [E.pend, E.lead, E.nest]
  | lam _ _ a ih | fst a ih | snd a ih | asc _ a ih => intro k; simp only [E.pend, E.lead, E.nest, ih, hz]; omega
  | app a b iha ihb | add a b iha ihb | less a b iha ihb | pair a b iha ihb => intro k; simp only [E.pend, E.lead, E.nest, iha, ihb, hz]; omega
  | ite a b c iha ihb ihc => intro k; simp only [E.pend, E.lead, E.nest, iha, ihb, ihc, hz]; omega
theorem E.pend_nest (e : E) : e.pend 0 = e.nest := by
  rw [E.pend_eq]
  have := e.lead_nest
  cases h : e.lead with
  | zero => simp
  | succ n => simp only []; omega
theorem E.nest_nodes (e : E) : e.nest ≤ e.nodes ∧ e.lead ≤ e.nodes := by
  induction e <;> simp only [E.nest, E.lead, E.nodes] <;> omega
/-- the greatest number among the terms that are reached -/
def E.pI : Nat → E → Nat → Nat
  | 0, _, b => b
  | k + 1, x, b => match x.sc with | .took y => y.pI k (max b y.nest) | _ => b
theorem E.pI_took {x y : E} (h : x.sc = .took y) (k b : Nat) : x.pI (k + 1) b = y.pI k (max b y.nest) := by simp only [E.pI, h]
theorem E.pI_stop {x : E} (h : ∀ y, x.sc ≠ .took y) (k b : Nat) : x.pI k b = b := by
  cases k with
  | zero => rfl
  | succ k =>
    rw [E.pI]
    cases hx : x.sc with
    | took y => exact absurd hx (h y)
    | _ => rfl
/-- how many steps -/
noncomputable def Tm.countV (t : Tm) (f : Int) : Nat := by
  classical
  exact if h : t.castV = true then (match decide (0 ≤ f) && decide (f ≤ 300) with | true => ((Classical.choose (Tm.castV_E h)).evI f.toNat 0).2 | false => 0) else 0
theorem Tm.countV_E {e : E} (h : e.okC = true) (f : Nat) (hf : f ≤ 300) : e.tm.countV f = (e.evI f 0).2 := by
  have h' : e.tm.castV = true := by rw [E.castV_tm]; exact h
  unfold Tm.countV
  rw [dif_pos h', E.tm_inj _ _ (Classical.choose_spec (Tm.castV_E h')).1]
  have : (decide ((0 : Int) ≤ (f : Int)) && decide ((f : Int) ≤ 300)) = true := by simp; omega
  rw [this]
  rfl
theorem Tm.countV_bad {t : Tm} (h : t.castV = false) (f : Int) : t.countV f = 0 := by unfold Tm.countV; rw [dif_neg (by simp [h])]
theorem Tm.countV_off (t : Tm) {f : Int} (h : (decide (0 ≤ f) && decide (f ≤ 300)) = false) : t.countV f = 0 := by
  unfold Tm.countV; split
  · rw [h]
  · rfl
/-- the greatest number of pending casts -/
noncomputable def Tm.pendV (t : Tm) (f : Int) : Nat := by
  classical
  exact if h : t.castV = true then (match decide (0 ≤ f) && decide (f ≤ 300) with | true => (Classical.choose (Tm.castV_E h)).pI f.toNat (Classical.choose (Tm.castV_E h)).nest | false => 0) else 0
theorem Tm.pendV_E {e : E} (h : e.okC = true) (f : Nat) (hf : f ≤ 300) : Tm.pendV e.tm f = e.pI f e.nest := by
  have h' : e.tm.castV = true := by rw [E.castV_tm]; exact h
  unfold Tm.pendV
  rw [dif_pos h', E.tm_inj _ _ (Classical.choose_spec (Tm.castV_E h')).1]
  have : (decide ((0 : Int) ≤ (f : Int)) && decide ((f : Int) ≤ 300)) = true := by simp; omega
  rw [this]
  rfl
theorem Tm.pendV_bad {t : Tm} (h : t.castV = false) (f : Int) : Tm.pendV t f = 0 := by unfold Tm.pendV; rw [dif_neg (by simp [h])]
theorem Tm.pendV_off (t : Tm) {f : Int} (h : (decide (0 ≤ f) && decide (f ≤ 300)) = false) : Tm.pendV t f = 0 := by
  unfold Tm.pendV; split
  · rw [h]
  · rfl
end Go.Proofs.Grad
