/- Texts of the proof, one behind another. -/
import Derived.Test.YtjmicohbnpbemaaGreatKE21
set_option linter.unusedSimpArgs false
set_option linter.unusedVariables false
/- Steps of terms with casts: the rules for casts, in the program. On shadows. -/
namespace Go.Proofs.YtjmicohbnpbemaaGreat
open Go.RowKit Go.Proofs.Sh Go.Proofs.Grad
set_option maxRecDepth 100000
set_option maxHeartbeats 8000000
theorem iInj0 (t : Tm) (h : (t.kind == 14) = false) : AFn Tryz.prog 91 [.agg (teC t)] (.one (.sc (.bool false))) := by
  refine fn_in ?_; refine acl_in Tryz.func91 rfl isfn_91 (Nat.le_of_ble_eq_true rfl) (fun R hR => ?_); rw [Tryz.results91] at hR; refine wg_run ?_; (simp only [Tryz.f91, go_sem, h])
  repeat' (first | (simp only [go_sem, h]) | (((first | apply sp1 | apply sp2 | apply sp3 | apply sp4 | apply sp5 | apply sp6 | apply sp7) <;> intro hb) <;> (simp only [go_sem, hb, h])) | ((first | apply wm_done | apply wt_done | apply wg_run | refine fk ?_ ?_) <;> (simp only [go_sem, h])))
  all_goals (refine hR _ ?_; refine rat [] (hK := ⟨rfl, rfl⟩))
theorem iProxy0 (t : Tm) (h : (t.kind == 14) = false) : AFn Tryz.prog 90 [.agg (teC t)] (.one (.sc (.bool false))) := by
  refine fn_in ?_; refine acl_in Tryz.func90 rfl isfn_90 (Nat.le_of_ble_eq_true rfl) (fun R hR => ?_); rw [Tryz.results90] at hR; refine wg_run ?_; (simp only [Tryz.f90, go_sem, h])
  repeat' (first | (simp only [go_sem, h]) | (((first | apply sp1 | apply sp2 | apply sp3 | apply sp4 | apply sp5 | apply sp6 | apply sp7) <;> intro hb) <;> (simp only [go_sem, hb, h])) | ((first | apply wm_done | apply wt_done | apply wg_run | refine fk ?_ ?_) <;> (simp only [go_sem, h])))
  all_goals (refine hR _ ?_; refine rat [] (hK := ⟨rfl, rfl⟩))
def srT (r : SR) : AV := .tup [.agg (teC r.tm), .one (.sc (.int .i64 r.code)), .one (.sc (.int .i64 r.lab))]
/-- the rule of casts, at a cast -/
theorem iCastRule0 (s t : T) (l : Int) (v : E) (h : (E.cast s t l v).wf = true) (hz : v.tm.size < 100000000) : AFn Tryz.prog 99 [.agg (teC (E.cast s t l v).tm)] (srT (ruleCast s t l v)) := by
  simp only [E.wf, Bool.and_eq_true, decide_eq_true_eq] at h
  have gs := iGround s
  have gt := iGround t
  rw [← T.ty_kind] at gs gt
  have hig := iIsGround t.ty (by have := T.ty_small h.1.2; omega)
  rw [T.isG_ty] at hig
  have c1 := fun f y => iCasted v.tm f y l
  have c2 := fun a f y => iCasted (.mk 14 ByteArray.empty 0 a s.ty l [v.tm]) f y l
  unfold ruleCast
  cases e1 : (s.ty.kind == t.ty.kind)
  · cases e2 : (t.ty.kind == 1)
    · cases e3 : t.isG
      · rw [e3] at hig
        simp only [srT, SR.tm, SR.code, SR.lab]
        simp only [E.tm]
        refine fn_in ?_; refine acl_in Tryz.func99 rfl isfn_99 (Nat.le_of_ble_eq_true rfl) (fun R hR => ?_); rw [Tryz.results99] at hR; refine wg_run ?_; (simp only [Tryz.f99, go_sem, e1, e2])
        repeat' (first | (first | (simp only [go_sem, e1, e2, int_bne]) | (((first | apply sp1 | apply sp2 | apply sp3 | apply sp4 | apply sp5 | apply sp6 | apply sp7) <;> intro hb) <;> (simp only [go_sem, hb, e1, e2, int_bne])) | ((first | apply wm_done | apply wt_done | apply wg_run | refine fk ?_ ?_) <;> (simp only [go_sem, e1, e2, int_bne]))) | (first | (refine tr (.op 0 false (.op 1 false (.op 2 false (.op 3 false (.op 4 false (.op 5 false (.op 6 false (.op 7 false (.fork 8 false (.op 9 false (.op 10 false (.op 11 true .nil))) (.op 9 false (.op 8 false (.op 10 false (.op 11 true .nil))))))))))))) [1] follows ?_; (simp only [go_sem, e1, e2, int_bne])) | (refine tr (.op 0 false (.op 1 false (.op 2 false (.op 3 false (.op 4 false (.op 5 false .nil)))))) [1] follows ?_; (simp only [go_sem, e1, e2, int_bne])) | fail) | ((first | refine mxq6 [] ?_ | refine mxq5 [] ?_ | refine mxq4 [] ?_ | refine mxq3 [] ?_ | refine mxq2 [] ?_ | refine mxq1 [] ?_ | refine mxq0 [] ?_ | fail); (simp only [go_sem, e1, e2, int_bne])) | (first | refine cdq ?_ (hc := gt) | refine cmq ?_ (hc := gt) | refine ctq ?_ (hc := gt)); (simp only [go_sem]) | (first | refine cdq ?_ (hc := hig) | refine cmq ?_ (hc := hig) | refine ctq ?_ (hc := hig)); (simp only [go_sem]) | (first | refine cdq ?_ (hc := c1 _ _) | refine cmq ?_ (hc := c1 _ _) | refine ctq ?_ (hc := c1 _ _)); (simp only [go_sem]) | (first | refine cdq ?_ (hc := c2 _ _ _) | refine cmq ?_ (hc := c2 _ _ _) | refine ctq ?_ (hc := c2 _ _ _)); (simp only [go_sem]) | fail)
        all_goals (refine hR _ ?_; refine rat [] (hK := ⟨rfl, rfl⟩))
      · rw [e3] at hig
        cases v with
        | cast s' t' l' w =>
          have h' := h.2.2.2
          simp only [E.wf, Bool.and_eq_true, decide_eq_true_eq] at h'
          have hi := iInj (E.cast s' t' l' w).tm (by omega)
          simp only [E.tm, Tm.kind, Tm.type, Tm.frm] at hi
          rw [injB_T] at hi
          have hs := iSame 1000 (by omega) s'.ty t.ty (T.ty_small h'.1.1)
          simp only [ruleOut]
          cases e4 : injT s' t'
          · rw [e4] at hi
            simp only [srT, SR.tm, SR.code, SR.lab]
            simp only [E.tm]
            refine fn_in ?_; refine acl_in Tryz.func99 rfl isfn_99 (Nat.le_of_ble_eq_true rfl) (fun R hR => ?_); rw [Tryz.results99] at hR; refine wg_run ?_; (simp only [Tryz.f99, go_sem, e1, e2])
            repeat' (first | (first | (simp only [go_sem, e1, e2, int_bne]) | (((first | apply sp1 | apply sp2 | apply sp3 | apply sp4 | apply sp5 | apply sp6 | apply sp7) <;> intro hb) <;> (simp only [go_sem, hb, e1, e2, int_bne])) | ((first | apply wm_done | apply wt_done | apply wg_run | refine fk ?_ ?_) <;> (simp only [go_sem, e1, e2, int_bne]))) | (first | (refine tr (.op 0 false (.op 1 false (.op 2 false (.op 3 false (.op 4 false (.op 5 false (.op 6 false (.op 7 false (.fork 8 false (.op 9 false (.op 10 false (.op 11 true .nil))) (.op 9 false (.op 8 false (.op 10 false (.op 11 true .nil))))))))))))) [1] follows ?_; (simp only [go_sem, e1, e2, int_bne])) | (refine tr (.op 0 false (.op 1 false (.op 2 false (.op 3 false (.op 4 false (.op 5 false .nil)))))) [1] follows ?_; (simp only [go_sem, e1, e2, int_bne])) | fail) | ((first | refine mxq6 [] ?_ | refine mxq5 [] ?_ | refine mxq4 [] ?_ | refine mxq3 [] ?_ | refine mxq2 [] ?_ | refine mxq1 [] ?_ | refine mxq0 [] ?_ | fail); (simp only [go_sem, e1, e2, int_bne])) | (first | refine cdq ?_ (hc := hig) | refine cmq ?_ (hc := hig) | refine ctq ?_ (hc := hig)); (simp only [go_sem]) | (first | refine cdq ?_ (hc := hi) | refine cmq ?_ (hc := hi) | refine ctq ?_ (hc := hi)); (simp only [go_sem]) | fail)
            all_goals (refine hR _ ?_; refine rat [] (hK := ⟨rfl, rfl⟩))
          · rw [e4] at hi
            have e5 : s'.isG = true := by simp only [injT, Bool.and_eq_true] at e4; exact e4.2
            rw [T.same_G e5 e3] at hs
            cases e6 : (s'.ty.kind == t.ty.kind)
            all_goals
              rw [e6] at hs
              simp only [srT, SR.tm, SR.code, SR.lab]
              simp only [E.tm]
              refine fn_in ?_; refine acl_in Tryz.func99 rfl isfn_99 (Nat.le_of_ble_eq_true rfl) (fun R hR => ?_); rw [Tryz.results99] at hR; refine wg_run ?_; (simp only [Tryz.f99, go_sem, e1, e2])
              repeat' (first | (first | (simp only [go_sem, e1, e2, int_bne]) | (((first | apply sp1 | apply sp2 | apply sp3 | apply sp4 | apply sp5 | apply sp6 | apply sp7) <;> intro hb) <;> (simp only [go_sem, hb, e1, e2, int_bne])) | ((first | apply wm_done | apply wt_done | apply wg_run | refine fk ?_ ?_) <;> (simp only [go_sem, e1, e2, int_bne]))) | (first | (refine tr (.op 0 false (.op 1 false (.op 2 false (.op 3 false (.op 4 false (.op 5 false (.op 6 false (.op 7 false (.fork 8 false (.op 9 false (.op 10 false (.op 11 true .nil))) (.op 9 false (.op 8 false (.op 10 false (.op 11 true .nil))))))))))))) [1] follows ?_; (simp only [go_sem, e1, e2, int_bne])) | (refine tr (.op 0 false (.op 1 false (.op 2 false (.op 3 false (.op 4 false (.op 5 false .nil)))))) [1] follows ?_; (simp only [go_sem, e1, e2, int_bne])) | fail) | ((first | refine mxq6 [] ?_ | refine mxq5 [] ?_ | refine mxq4 [] ?_ | refine mxq3 [] ?_ | refine mxq2 [] ?_ | refine mxq1 [] ?_ | refine mxq0 [] ?_ | fail); (simp only [go_sem, e1, e2, int_bne])) | (first | refine cdq ?_ (hc := hig) | refine cmq ?_ (hc := hig) | refine ctq ?_ (hc := hig)); (simp only [go_sem]) | (first | refine cdq ?_ (hc := hi) | refine cmq ?_ (hc := hi) | refine ctq ?_ (hc := hi)); (simp only [go_sem]) | (first | refine cdq ?_ (hc := hs) | refine cmq ?_ (hc := hs) | refine ctq ?_ (hc := hs)); (simp only [go_sem]) | fail)
              all_goals (refine hR _ ?_; refine rat [] (hK := ⟨rfl, rfl⟩))
        | _ =>
          simp only [ruleOut]
          simp only [srT, SR.tm, SR.code, SR.lab]
          simp only [E.tm, nd]
          refine fn_in ?_; refine acl_in Tryz.func99 rfl isfn_99 (Nat.le_of_ble_eq_true rfl) (fun R hR => ?_); rw [Tryz.results99] at hR; refine wg_run ?_; (simp only [Tryz.f99, go_sem, e1, e2])
          repeat' (first | (first | (simp only [go_sem, e1, e2, int_bne]) | (((first | apply sp1 | apply sp2 | apply sp3 | apply sp4 | apply sp5 | apply sp6 | apply sp7) <;> intro hb) <;> (simp only [go_sem, hb, e1, e2, int_bne])) | ((first | apply wm_done | apply wt_done | apply wg_run | refine fk ?_ ?_) <;> (simp only [go_sem, e1, e2, int_bne]))) | (first | (refine tr (.op 0 false (.op 1 false (.op 2 false (.op 3 false (.op 4 false (.op 5 false (.op 6 false (.op 7 false (.fork 8 false (.op 9 false (.op 10 false (.op 11 true .nil))) (.op 9 false (.op 8 false (.op 10 false (.op 11 true .nil))))))))))))) [1] follows ?_; (simp only [go_sem, e1, e2, int_bne])) | (refine tr (.op 0 false (.op 1 false (.op 2 false (.op 3 false (.op 4 false (.op 5 false .nil)))))) [1] follows ?_; (simp only [go_sem, e1, e2, int_bne])) | fail) | ((first | refine mxq6 [] ?_ | refine mxq5 [] ?_ | refine mxq4 [] ?_ | refine mxq3 [] ?_ | refine mxq2 [] ?_ | refine mxq1 [] ?_ | refine mxq0 [] ?_ | fail); (simp only [go_sem, e1, e2, int_bne])) | (first | refine cdq ?_ (hc := hig) | refine cmq ?_ (hc := hig) | refine ctq ?_ (hc := hig)); (simp only [go_sem]) | (first | refine cdq ?_ (hc := iInj0 _ rfl) | refine cmq ?_ (hc := iInj0 _ rfl) | refine ctq ?_ (hc := iInj0 _ rfl)); (simp only [go_sem]) | fail)
          all_goals (refine hR _ ?_; refine rat [] (hK := ⟨rfl, rfl⟩))
    · have ht := kind_one e2
      subst ht
      have e1' : (s.ty.kind == (1 : Int)) = false := e1
      simp only [srT, SR.tm, SR.code, SR.lab]
      simp only [E.tm, T.ty]
      refine fn_in ?_; refine acl_in Tryz.func99 rfl isfn_99 (Nat.le_of_ble_eq_true rfl) (fun R hR => ?_); rw [Tryz.results99] at hR; refine wg_run ?_; (simp only [Tryz.f99, go_sem, e1'])
      repeat' (first | (first | (simp only [go_sem, e1', int_bne]) | (((first | apply sp1 | apply sp2 | apply sp3 | apply sp4 | apply sp5 | apply sp6 | apply sp7) <;> intro hb) <;> (simp only [go_sem, hb, e1', int_bne])) | ((first | apply wm_done | apply wt_done | apply wg_run | refine fk ?_ ?_) <;> (simp only [go_sem, e1', int_bne]))) | (first | (refine tr (.op 0 false (.op 1 false (.op 2 false (.op 3 false (.op 4 false (.op 5 false (.op 6 false (.op 7 false (.fork 8 false (.op 9 false (.op 10 false (.op 11 true .nil))) (.op 9 false (.op 8 false (.op 10 false (.op 11 true .nil))))))))))))) [1] follows ?_; (simp only [go_sem, e1', int_bne])) | (refine tr (.op 0 false (.op 1 false (.op 2 false (.op 3 false (.op 4 false (.op 5 false .nil)))))) [1] follows ?_; (simp only [go_sem, e1', int_bne])) | fail) | ((first | refine mxq6 [] ?_ | refine mxq5 [] ?_ | refine mxq4 [] ?_ | refine mxq3 [] ?_ | refine mxq2 [] ?_ | refine mxq1 [] ?_ | refine mxq0 [] ?_ | fail); (simp only [go_sem, e1', int_bne])) | (first | refine cdq ?_ (hc := gs) | refine cmq ?_ (hc := gs) | refine ctq ?_ (hc := gs)); (simp only [go_sem]) | (first | refine cdq ?_ (hc := c1 _ _) | refine cmq ?_ (hc := c1 _ _) | refine ctq ?_ (hc := c1 _ _)); (simp only [go_sem]) | (first | refine cdq ?_ (hc := c2 _ _ _) | refine cmq ?_ (hc := c2 _ _ _) | refine ctq ?_ (hc := c2 _ _ _)); (simp only [go_sem]) | fail)
      all_goals (refine hR _ ?_; refine rat [] (hK := ⟨rfl, rfl⟩))
  · simp only [srT, SR.tm, SR.code, SR.lab]
    simp only [E.tm]
    refine fn_in ?_; refine acl_in Tryz.func99 rfl isfn_99 (Nat.le_of_ble_eq_true rfl) (fun R hR => ?_); rw [Tryz.results99] at hR; refine wg_run ?_; (simp only [Tryz.f99, go_sem, e1])
    repeat' (first | (first | (simp only [go_sem, e1, int_bne]) | (((first | apply sp1 | apply sp2 | apply sp3 | apply sp4 | apply sp5 | apply sp6 | apply sp7) <;> intro hb) <;> (simp only [go_sem, hb, e1, int_bne])) | ((first | apply wm_done | apply wt_done | apply wg_run | refine fk ?_ ?_) <;> (simp only [go_sem, e1, int_bne]))) | (first | (refine tr (.op 0 false (.op 1 false (.op 2 false (.op 3 false (.op 4 false (.op 5 false (.op 6 false (.op 7 false (.fork 8 false (.op 9 false (.op 10 false (.op 11 true .nil))) (.op 9 false (.op 8 false (.op 10 false (.op 11 true .nil))))))))))))) [1] follows ?_; (simp only [go_sem, e1, int_bne])) | (refine tr (.op 0 false (.op 1 false (.op 2 false (.op 3 false (.op 4 false (.op 5 false .nil)))))) [1] follows ?_; (simp only [go_sem, e1, int_bne])) | fail) | ((first | refine mxq6 [] ?_ | refine mxq5 [] ?_ | refine mxq4 [] ?_ | refine mxq3 [] ?_ | refine mxq2 [] ?_ | refine mxq1 [] ?_ | refine mxq0 [] ?_ | fail); (simp only [go_sem, e1, int_bne])) | fail)
    all_goals (refine hR _ ?_; refine rat [] (hK := ⟨rfl, rfl⟩))
theorem iCastRule (e : E) (h : e.wf = true) (hz : e.tm.size < 100000000) (hk : e.tm.kids ≠ []) : AFn Tryz.prog 99 [.agg (teC e.tm)] (srT e.castR) := by
  cases e with
  | cast s t l v => exact iCastRule0 s t l v h (by simp only [E.tm, Tm.size, Tm.sizes] at hz; omega)
  | app a b =>
    cases a with
    | cast s t l f =>
      simp only [E.wf, Bool.and_eq_true, decide_eq_true_eq] at h
      have hp := iProxy (E.cast s t l f).tm
      simp only [E.tm, Tm.kind, Tm.type, Tm.frm] at hp
      rw [proxyB_T] at hp
      have hn := fun ks => iNode 6 ks
      have c1 := fun a f y l => iCasted a f y l
      have hw : IntKind.i64.wrap (0 - l) = -l := by have := lab_bd2 h.1.2.2.1; rw [IntWalk.i64_in _ (by omega)]; omega
      cases s <;> cases t <;> simp only [proxyT, T.isFn, T.isPr, Bool.false_and, Bool.and_false, Bool.and_true, Bool.true_and, Bool.or_false, Bool.or_true, Bool.or_self] at hp
      all_goals
        simp only [E.castR, srT, SR.tm, SR.code, SR.lab]
        simp only [E.tm, nd, T.ty] at hp ⊢
        refine fn_in ?_; refine acl_in Tryz.func99 rfl isfn_99 (Nat.le_of_ble_eq_true rfl) (fun R hR => ?_); rw [Tryz.results99] at hR; refine wg_run ?_; (simp only [Tryz.f99, go_sem, hw])
        repeat' (first | (first | (simp only [go_sem, hw, int_bne]) | (((first | apply sp1 | apply sp2 | apply sp3 | apply sp4 | apply sp5 | apply sp6 | apply sp7) <;> intro hb) <;> (simp only [go_sem, hb, hw, int_bne])) | ((first | apply wm_done | apply wt_done | apply wg_run | refine fk ?_ ?_) <;> (simp only [go_sem, hw, int_bne]))) | (first | (refine tr (.op 0 false (.op 1 false (.op 2 false (.op 3 false (.op 4 false (.op 5 false (.op 6 false (.op 7 false (.fork 8 false (.op 9 false (.op 10 false (.op 11 true .nil))) (.op 9 false (.op 8 false (.op 10 false (.op 11 true .nil))))))))))))) [1] follows ?_; (simp only [go_sem, hw, int_bne])) | (refine tr (.op 0 false (.op 1 false (.op 2 false (.op 3 false (.op 4 false (.op 5 false .nil)))))) [1] follows ?_; (simp only [go_sem, hw, int_bne])) | fail) | ((first | refine mxq6 [] ?_ | refine mxq5 [] ?_ | refine mxq4 [] ?_ | refine mxq3 [] ?_ | refine mxq2 [] ?_ | refine mxq1 [] ?_ | refine mxq0 [] ?_ | fail); (simp only [go_sem, hw, int_bne])) | (first | refine cdq ?_ (hc := hp) | refine cmq ?_ (hc := hp) | refine ctq ?_ (hc := hp)); (simp only [go_sem]) | (first | refine cdq ?_ (hc := c1 _ _ _ _) | refine cmq ?_ (hc := c1 _ _ _ _) | refine ctq ?_ (hc := c1 _ _ _ _)); (simp only [go_sem]) | (first | refine cdq ?_ (hc := hn [_, _]) | refine cmq ?_ (hc := hn [_, _]) | refine ctq ?_ (hc := hn [_, _])); (simp only [go_sem]) | fail)
        all_goals (refine hR _ ?_; refine rat [] (hK := ⟨rfl, rfl⟩))
    | _ =>
      simp only [E.castR, srT, SR.tm, SR.code, SR.lab]
      simp only [E.tm, nd]
      refine fn_in ?_; refine acl_in Tryz.func99 rfl isfn_99 (Nat.le_of_ble_eq_true rfl) (fun R hR => ?_); rw [Tryz.results99] at hR; refine wg_run ?_; (simp only [Tryz.f99, go_sem])
      repeat' (first | (first | (simp only [go_sem, int_bne]) | (((first | apply sp1 | apply sp2 | apply sp3 | apply sp4 | apply sp5 | apply sp6 | apply sp7) <;> intro hb) <;> (simp only [go_sem, hb, int_bne])) | ((first | apply wm_done | apply wt_done | apply wg_run | refine fk ?_ ?_) <;> (simp only [go_sem, int_bne]))) | (first | (refine tr (.op 0 false (.op 1 false (.op 2 false (.op 3 false (.op 4 false (.op 5 false (.op 6 false (.op 7 false (.fork 8 false (.op 9 false (.op 10 false (.op 11 true .nil))) (.op 9 false (.op 8 false (.op 10 false (.op 11 true .nil))))))))))))) [1] follows ?_; (simp only [go_sem, int_bne])) | (refine tr (.op 0 false (.op 1 false (.op 2 false (.op 3 false (.op 4 false (.op 5 false .nil)))))) [1] follows ?_; (simp only [go_sem, int_bne])) | fail) | ((first | refine mxq6 [] ?_ | refine mxq5 [] ?_ | refine mxq4 [] ?_ | refine mxq3 [] ?_ | refine mxq2 [] ?_ | refine mxq1 [] ?_ | refine mxq0 [] ?_ | fail); (simp only [go_sem, int_bne])) | (first | refine cdq ?_ (hc := iProxy0 _ rfl) | refine cmq ?_ (hc := iProxy0 _ rfl) | refine ctq ?_ (hc := iProxy0 _ rfl)); (simp only [go_sem]) | fail)
      all_goals (refine hR _ ?_; refine rat [] (hK := ⟨rfl, rfl⟩))
  | fst a | snd a =>
    cases a with
    | cast s t l f =>
      have hp := iProxy (E.cast s t l f).tm
      simp only [E.tm, Tm.kind, Tm.type, Tm.frm] at hp
      rw [proxyB_T] at hp
      have hn := fun k ks => iNode k ks
      have c1 := fun a f y l => iCasted a f y l
      cases s <;> cases t <;> simp only [proxyT, T.isFn, T.isPr, Bool.false_and, Bool.and_false, Bool.and_true, Bool.true_and, Bool.or_false, Bool.or_true, Bool.or_self] at hp
      all_goals
        simp only [E.castR, srT, SR.tm, SR.code, SR.lab]
        simp only [E.tm, nd, T.ty] at hp ⊢
        refine fn_in ?_; refine acl_in Tryz.func99 rfl isfn_99 (Nat.le_of_ble_eq_true rfl) (fun R hR => ?_); rw [Tryz.results99] at hR; refine wg_run ?_; (simp only [Tryz.f99, go_sem])
        repeat' (first | (first | (simp only [go_sem, int_bne]) | (((first | apply sp1 | apply sp2 | apply sp3 | apply sp4 | apply sp5 | apply sp6 | apply sp7) <;> intro hb) <;> (simp only [go_sem, hb, int_bne])) | ((first | apply wm_done | apply wt_done | apply wg_run | refine fk ?_ ?_) <;> (simp only [go_sem, int_bne]))) | (first | (refine tr (.op 0 false (.op 1 false (.op 2 false (.op 3 false (.op 4 false (.op 5 false (.op 6 false (.op 7 false (.fork 8 false (.op 9 false (.op 10 false (.op 11 true .nil))) (.op 9 false (.op 8 false (.op 10 false (.op 11 true .nil))))))))))))) [1] follows ?_; (simp only [go_sem, int_bne])) | (refine tr (.op 0 false (.op 1 false (.op 2 false (.op 3 false (.op 4 false (.op 5 false .nil)))))) [1] follows ?_; (simp only [go_sem, int_bne])) | fail) | ((first | refine mxq6 [] ?_ | refine mxq5 [] ?_ | refine mxq4 [] ?_ | refine mxq3 [] ?_ | refine mxq2 [] ?_ | refine mxq1 [] ?_ | refine mxq0 [] ?_ | fail); (simp only [go_sem, int_bne])) | (first | refine cdq ?_ (hc := hp) | refine cmq ?_ (hc := hp) | refine ctq ?_ (hc := hp)); (simp only [go_sem]) | (first | refine cdq ?_ (hc := c1 _ _ _ _) | refine cmq ?_ (hc := c1 _ _ _ _) | refine ctq ?_ (hc := c1 _ _ _ _)); (simp only [go_sem]) | (first | refine cdq ?_ (hc := hn _ [_]) | refine cmq ?_ (hc := hn _ [_]) | refine ctq ?_ (hc := hn _ [_])); (simp only [go_sem]) | fail)
        all_goals (refine hR _ ?_; refine rat [] (hK := ⟨rfl, rfl⟩))
    | _ =>
      simp only [E.castR, srT, SR.tm, SR.code, SR.lab]
      simp only [E.tm, nd]
      refine fn_in ?_; refine acl_in Tryz.func99 rfl isfn_99 (Nat.le_of_ble_eq_true rfl) (fun R hR => ?_); rw [Tryz.results99] at hR; refine wg_run ?_; (simp only [Tryz.f99, go_sem])
      repeat' (first | (first | (simp only [go_sem, int_bne]) | (((first | apply sp1 | apply sp2 | apply sp3 | apply sp4 | apply sp5 | apply sp6 | apply sp7) <;> intro hb) <;> (simp only [go_sem, hb, int_bne])) | ((first | apply wm_done | apply wt_done | apply wg_run | refine fk ?_ ?_) <;> (simp only [go_sem, int_bne]))) | (first | (refine tr (.op 0 false (.op 1 false (.op 2 false (.op 3 false (.op 4 false (.op 5 false (.op 6 false (.op 7 false (.fork 8 false (.op 9 false (.op 10 false (.op 11 true .nil))) (.op 9 false (.op 8 false (.op 10 false (.op 11 true .nil))))))))))))) [1] follows ?_; (simp only [go_sem, int_bne])) | (refine tr (.op 0 false (.op 1 false (.op 2 false (.op 3 false (.op 4 false (.op 5 false .nil)))))) [1] follows ?_; (simp only [go_sem, int_bne])) | fail) | ((first | refine mxq6 [] ?_ | refine mxq5 [] ?_ | refine mxq4 [] ?_ | refine mxq3 [] ?_ | refine mxq2 [] ?_ | refine mxq1 [] ?_ | refine mxq0 [] ?_ | fail); (simp only [go_sem, int_bne])) | (first | refine cdq ?_ (hc := iProxy0 _ rfl) | refine cmq ?_ (hc := iProxy0 _ rfl) | refine ctq ?_ (hc := iProxy0 _ rfl)); (simp only [go_sem]) | fail)
      all_goals (refine hR _ ?_; refine rat [] (hK := ⟨rfl, rfl⟩))
  | var _ | num _ | tru | fls => simp [E.tm, nd, Tm.kids] at hk
  | _ =>
    simp only [E.castR, srT, SR.tm, SR.code, SR.lab]
    simp only [E.tm, nd]
    refine fn_in ?_; refine acl_in Tryz.func99 rfl isfn_99 (Nat.le_of_ble_eq_true rfl) (fun R hR => ?_); rw [Tryz.results99] at hR; refine wg_run ?_; (simp only [Tryz.f99, go_sem])
    repeat' (first | (first | (simp only [go_sem, int_bne]) | (((first | apply sp1 | apply sp2 | apply sp3 | apply sp4 | apply sp5 | apply sp6 | apply sp7) <;> intro hb) <;> (simp only [go_sem, hb, int_bne])) | ((first | apply wm_done | apply wt_done | apply wg_run | refine fk ?_ ?_) <;> (simp only [go_sem, int_bne]))) | (first | (refine tr (.op 0 false (.op 1 false (.op 2 false (.op 3 false (.op 4 false (.op 5 false (.op 6 false (.op 7 false (.fork 8 false (.op 9 false (.op 10 false (.op 11 true .nil))) (.op 9 false (.op 8 false (.op 10 false (.op 11 true .nil))))))))))))) [1] follows ?_; (simp only [go_sem, int_bne])) | (refine tr (.op 0 false (.op 1 false (.op 2 false (.op 3 false (.op 4 false (.op 5 false .nil)))))) [1] follows ?_; (simp only [go_sem, int_bne])) | fail) | ((first | refine mxq6 [] ?_ | refine mxq5 [] ?_ | refine mxq4 [] ?_ | refine mxq3 [] ?_ | refine mxq2 [] ?_ | refine mxq1 [] ?_ | refine mxq0 [] ?_ | fail); (simp only [go_sem, int_bne])) | (first | refine cdq ?_ (hc := iProxy0 _ rfl) | refine cmq ?_ (hc := iProxy0 _ rfl) | refine ctq ?_ (hc := iProxy0 _ rfl)); (simp only [go_sem]) | fail)
    all_goals (refine hR _ ?_; refine rat [] (hK := ⟨rfl, rfl⟩))
end Go.Proofs.YtjmicohbnpbemaaGreat
