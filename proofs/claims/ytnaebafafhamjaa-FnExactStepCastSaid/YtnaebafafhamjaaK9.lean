/- Texts of the proof, one behind another. -/
import Derived.Test.YtnaebafafhamjaaK8
set_option linter.unusedSimpArgs false
set_option linter.unusedVariables false
/- Steps of terms with casts: the rules, in the program. On shadows. -/
namespace Go.Proofs.Ytnaebafafhamjaa
open Go.RowKit Go.Proofs.Sh Go.Proofs.Grad
set_option maxRecDepth 100000
set_option maxHeartbeats 8000000
theorem iCasted (t : Tm) (f y : Ty) (l : Int) : AFn Try.prog 161 [.agg (teC t), .agg (tyC f), .agg (tyC y), .one (.sc (.int .i64 l))] (.agg (teC (.mk 14 ByteArray.empty 0 y f l [t]))) := by
  refine fn_in ?_; refine acl_in Try.func161 rfl isfn_161 (Nat.le_of_ble_eq_true rfl) (fun R hR => ?_); rw [Try.results161] at hR; refine wg_run ?_; (simp only [Try.f161, go_sem])
  repeat' (first | (first | (((first | refine sp1 ?_ ?_ | refine sp2 ?_ ?_ | refine sp3 ?_ ?_ | refine sp4 ?_ ?_ | refine sp5 ?_ ?_ | refine sp6 ?_ ?_ | refine sp7 ?_ ?_) <;> intro hb) <;> (simp only [go_sem, hb])) | ((first | refine wm_done ?_ | refine wt_done ?_ | refine wg_run ?_ | refine fk ?_ ?_) <;> (simp only [go_sem]))) | ((first | refine mx 6 [] follows ?_ | refine mx 5 [] follows ?_ | refine mx 4 [] follows ?_ | refine mx 3 [] follows ?_ | refine mx 2 [] follows ?_ | refine mx 1 [] follows ?_ | refine mx 0 [] follows ?_ | fail); (simp only [go_sem])) | fail)
  (refine hR _ ?_; refine rat [] (hK := ⟨rfl, rfl⟩))
theorem iNode (k : Int) (ks : List Tm) : AFn Try.prog 162 [.one (.sc (.int .i64 k)), .one (.sl (teR ks))] (.agg (teC (nd k ks))) := by
  refine fn_in ?_; refine acl_in Try.func162 rfl isfn_162 (Nat.le_of_ble_eq_true rfl) (fun R hR => ?_); rw [Try.results162] at hR; refine wg_run ?_; (simp only [Try.f162, go_sem])
  repeat' (first | (first | (((first | refine sp1 ?_ ?_ | refine sp2 ?_ ?_ | refine sp3 ?_ ?_ | refine sp4 ?_ ?_ | refine sp5 ?_ ?_ | refine sp6 ?_ ?_ | refine sp7 ?_ ?_) <;> intro hb) <;> (simp only [go_sem, hb])) | ((first | refine wm_done ?_ | refine wt_done ?_ | refine wg_run ?_ | refine fk ?_ ?_) <;> (simp only [go_sem]))) | ((first | refine mx 6 [] follows ?_ | refine mx 5 [] follows ?_ | refine mx 4 [] follows ?_ | refine mx 3 [] follows ?_ | refine mx 2 [] follows ?_ | refine mx 1 [] follows ?_ | refine mx 0 [] follows ?_ | fail); (simp only [go_sem])) | fail)
  (refine hR _ ?_; refine rat [] (hK := ⟨rfl, rfl⟩))
theorem iTruth (b : Bool) : AFn Try.prog 160 [.one (.sc (.bool b))] (.agg (teC (match b with | true => E.tru | false => E.fls).tm)) := by
  have h3 := iNode 3 []
  have h4 := iNode 4 []
  cases b
  all_goals
    simp only [E.tm]
    refine fn_in ?_; refine acl_in Try.func160 rfl isfn_160 (Nat.le_of_ble_eq_true rfl) (fun R hR => ?_); rw [Try.results160] at hR; refine wg_run ?_; (simp only [Try.f160, go_sem])
    repeat' (first | (first | (((first | refine sp1 ?_ ?_ | refine sp2 ?_ ?_ | refine sp3 ?_ ?_ | refine sp4 ?_ ?_ | refine sp5 ?_ ?_ | refine sp6 ?_ ?_ | refine sp7 ?_ ?_) <;> intro hb) <;> (simp only [go_sem, hb])) | ((first | refine wm_done ?_ | refine wt_done ?_ | refine wg_run ?_ | refine fk ?_ ?_) <;> (simp only [go_sem]))) | (first | refine cd (hc := h3) (hK := ?_) | refine cm (hc := h3) (hK := ?_) | refine ct (hc := h3) (hK := ?_)); (simp only [go_sem]) | (first | refine cd (hc := h4) (hK := ?_) | refine cm (hc := h4) (hK := ?_) | refine ct (hc := h4) (hK := ?_)); (simp only [go_sem]) | fail)
    (refine hR _ ?_; refine rat [] (hK := ⟨rfl, rfl⟩))
def ruT (o : Option E) : AV := match o with | some x => .tup [.agg (teC x.tm), .one (.sc (.int .i64 1))] | none => .tup [.agg (teC tm0), .one (.sc (.int .i64 3))]
theorem iRule (e : E) (h : e.wf = true) : AFn Try.prog 123 [.agg (teC e.tm)] (ruT e.ruleI) := by
  cases e with
  | app a b =>
    cases a with
    | lam x t c =>
      have hs := iSubst x b c
      simp only [E.ruleI, ruT]
      simp only [E.tm, nd]
      refine fn_in ?_; refine acl_in Try.func123 rfl isfn_123 (Nat.le_of_ble_eq_true rfl) (fun R hR => ?_); rw [Try.results123] at hR; refine wg_run ?_; (simp only [Try.f123, go_sem])
      repeat' (first | (first | (((first | refine sp1 ?_ ?_ | refine sp2 ?_ ?_ | refine sp3 ?_ ?_ | refine sp4 ?_ ?_ | refine sp5 ?_ ?_ | refine sp6 ?_ ?_ | refine sp7 ?_ ?_) <;> intro hb) <;> (simp only [go_sem, hb])) | ((first | refine wm_done ?_ | refine wt_done ?_ | refine wg_run ?_ | refine fk ?_ ?_) <;> (simp only [go_sem]))) | (first | refine cd (hc := hs) (hK := ?_) | refine cm (hc := hs) (hK := ?_) | refine ct (hc := hs) (hK := ?_)); (simp only [go_sem]) | ((first | refine mx 6 [] follows ?_ | refine mx 5 [] follows ?_ | refine mx 4 [] follows ?_ | refine mx 3 [] follows ?_ | refine mx 2 [] follows ?_ | refine mx 1 [] follows ?_ | refine mx 0 [] follows ?_ | fail); (simp only [go_sem])) | fail)
      (refine hR _ ?_; refine rat [] (hK := ⟨rfl, rfl⟩))
    | _ =>
      simp only [E.ruleI, ruT]
      simp only [E.tm, nd]
      refine fn_in ?_; refine acl_in Try.func123 rfl isfn_123 (Nat.le_of_ble_eq_true rfl) (fun R hR => ?_); rw [Try.results123] at hR; refine wg_run ?_; (simp only [Try.f123, go_sem])
      repeat' (first | (first | (((first | refine sp1 ?_ ?_ | refine sp2 ?_ ?_ | refine sp3 ?_ ?_ | refine sp4 ?_ ?_ | refine sp5 ?_ ?_ | refine sp6 ?_ ?_ | refine sp7 ?_ ?_) <;> intro hb) <;> (simp only [go_sem, hb])) | ((first | refine wm_done ?_ | refine wt_done ?_ | refine wg_run ?_ | refine fk ?_ ?_) <;> (simp only [go_sem]))) | ((first | refine mx 6 [] follows ?_ | refine mx 5 [] follows ?_ | refine mx 4 [] follows ?_ | refine mx 3 [] follows ?_ | refine mx 2 [] follows ?_ | refine mx 1 [] follows ?_ | refine mx 0 [] follows ?_ | fail); (simp only [go_sem])) | fail)
      (refine hR _ ?_; refine rat [] (hK := ⟨rfl, rfl⟩))
  | add a b =>
    cases a with
    | num n =>
      cases b with
      | num m =>
        simp only [E.wf, Bool.and_eq_true, decide_eq_true_eq] at h
        have hw : IntKind.i64.wrap (n + m) = n + m := IntWalk.i64_in _ (by omega)
        simp only [E.ruleI, ruT]
        simp only [E.tm, nd]
        refine fn_in ?_; refine acl_in Try.func123 rfl isfn_123 (Nat.le_of_ble_eq_true rfl) (fun R hR => ?_); rw [Try.results123] at hR; refine wg_run ?_; (simp only [Try.f123, go_sem, hw])
        repeat' (first | (first | (simp only [go_sem, hw, int_bne]) | (((first | refine sp1 ?_ ?_ | refine sp2 ?_ ?_ | refine sp3 ?_ ?_ | refine sp4 ?_ ?_ | refine sp5 ?_ ?_ | refine sp6 ?_ ?_ | refine sp7 ?_ ?_) <;> intro hb) <;> (simp only [go_sem, hb, hw, int_bne])) | ((first | refine wm_done ?_ | refine wt_done ?_ | refine wg_run ?_ | refine fk ?_ ?_) <;> (simp only [go_sem, hw, int_bne]))) | ((first | refine mx 6 [] follows ?_ | refine mx 5 [] follows ?_ | refine mx 4 [] follows ?_ | refine mx 3 [] follows ?_ | refine mx 2 [] follows ?_ | refine mx 1 [] follows ?_ | refine mx 0 [] follows ?_ | fail); (simp only [go_sem, hw, int_bne])) | fail)
        (refine hR _ ?_; refine rat [] (hK := ⟨rfl, rfl⟩))
      | _ =>
        simp only [E.ruleI, ruT]
        simp only [E.tm, nd]
        refine fn_in ?_; refine acl_in Try.func123 rfl isfn_123 (Nat.le_of_ble_eq_true rfl) (fun R hR => ?_); rw [Try.results123] at hR; refine wg_run ?_; (simp only [Try.f123, go_sem])
        repeat' (first | (first | (simp only [go_sem, int_bne]) | (((first | refine sp1 ?_ ?_ | refine sp2 ?_ ?_ | refine sp3 ?_ ?_ | refine sp4 ?_ ?_ | refine sp5 ?_ ?_ | refine sp6 ?_ ?_ | refine sp7 ?_ ?_) <;> intro hb) <;> (simp only [go_sem, hb, int_bne])) | ((first | refine wm_done ?_ | refine wt_done ?_ | refine wg_run ?_ | refine fk ?_ ?_) <;> (simp only [go_sem, int_bne]))) | ((first | refine mx 6 [] follows ?_ | refine mx 5 [] follows ?_ | refine mx 4 [] follows ?_ | refine mx 3 [] follows ?_ | refine mx 2 [] follows ?_ | refine mx 1 [] follows ?_ | refine mx 0 [] follows ?_ | fail); (simp only [go_sem, int_bne])) | fail)
        (refine hR _ ?_; refine rat [] (hK := ⟨rfl, rfl⟩))
    | _ =>
      simp only [E.ruleI, ruT]
      simp only [E.tm, nd]
      refine fn_in ?_; refine acl_in Try.func123 rfl isfn_123 (Nat.le_of_ble_eq_true rfl) (fun R hR => ?_); rw [Try.results123] at hR; refine wg_run ?_; (simp only [Try.f123, go_sem])
      repeat' (first | (first | (simp only [go_sem, int_bne]) | (((first | refine sp1 ?_ ?_ | refine sp2 ?_ ?_ | refine sp3 ?_ ?_ | refine sp4 ?_ ?_ | refine sp5 ?_ ?_ | refine sp6 ?_ ?_ | refine sp7 ?_ ?_) <;> intro hb) <;> (simp only [go_sem, hb, int_bne])) | ((first | refine wm_done ?_ | refine wt_done ?_ | refine wg_run ?_ | refine fk ?_ ?_) <;> (simp only [go_sem, int_bne]))) | ((first | refine mx 6 [] follows ?_ | refine mx 5 [] follows ?_ | refine mx 4 [] follows ?_ | refine mx 3 [] follows ?_ | refine mx 2 [] follows ?_ | refine mx 1 [] follows ?_ | refine mx 0 [] follows ?_ | fail); (simp only [go_sem, int_bne])) | fail)
      (refine hR _ ?_; refine rat [] (hK := ⟨rfl, rfl⟩))
  | less a b =>
    cases a with
    | num n =>
      cases b with
      | num m =>
        have ht := iTruth (decide (n < m))
        simp only [E.ruleI, ruT]
        cases hd : decide (n < m)
        all_goals
          rw [hd] at ht
          simp only [E.tm, nd] at ht ⊢
          refine fn_in ?_; refine acl_in Try.func123 rfl isfn_123 (Nat.le_of_ble_eq_true rfl) (fun R hR => ?_); rw [Try.results123] at hR; refine wg_run ?_; (simp only [Try.f123, go_sem, hd])
          repeat' (first | (first | (simp only [go_sem, hd, int_bne]) | (((first | refine sp1 ?_ ?_ | refine sp2 ?_ ?_ | refine sp3 ?_ ?_ | refine sp4 ?_ ?_ | refine sp5 ?_ ?_ | refine sp6 ?_ ?_ | refine sp7 ?_ ?_) <;> intro hb) <;> (simp only [go_sem, hb, hd, int_bne])) | ((first | refine wm_done ?_ | refine wt_done ?_ | refine wg_run ?_ | refine fk ?_ ?_) <;> (simp only [go_sem, hd, int_bne]))) | ((first | refine mx 6 [] follows ?_ | refine mx 5 [] follows ?_ | refine mx 4 [] follows ?_ | refine mx 3 [] follows ?_ | refine mx 2 [] follows ?_ | refine mx 1 [] follows ?_ | refine mx 0 [] follows ?_ | fail); (simp only [go_sem, hd, int_bne])) | (first | refine cd (hc := ht) (hK := ?_) | refine cm (hc := ht) (hK := ?_) | refine ct (hc := ht) (hK := ?_)); (simp only [go_sem]) | fail)
          (refine hR _ ?_; refine rat [] (hK := ⟨rfl, rfl⟩))
      | _ =>
        simp only [E.ruleI, ruT]
        simp only [E.tm, nd]
        refine fn_in ?_; refine acl_in Try.func123 rfl isfn_123 (Nat.le_of_ble_eq_true rfl) (fun R hR => ?_); rw [Try.results123] at hR; refine wg_run ?_; (simp only [Try.f123, go_sem])
        repeat' (first | (first | (simp only [go_sem, int_bne]) | (((first | refine sp1 ?_ ?_ | refine sp2 ?_ ?_ | refine sp3 ?_ ?_ | refine sp4 ?_ ?_ | refine sp5 ?_ ?_ | refine sp6 ?_ ?_ | refine sp7 ?_ ?_) <;> intro hb) <;> (simp only [go_sem, hb, int_bne])) | ((first | refine wm_done ?_ | refine wt_done ?_ | refine wg_run ?_ | refine fk ?_ ?_) <;> (simp only [go_sem, int_bne]))) | ((first | refine mx 6 [] follows ?_ | refine mx 5 [] follows ?_ | refine mx 4 [] follows ?_ | refine mx 3 [] follows ?_ | refine mx 2 [] follows ?_ | refine mx 1 [] follows ?_ | refine mx 0 [] follows ?_ | fail); (simp only [go_sem, int_bne])) | fail)
        (refine hR _ ?_; refine rat [] (hK := ⟨rfl, rfl⟩))
    | _ =>
      simp only [E.ruleI, ruT]
      simp only [E.tm, nd]
      refine fn_in ?_; refine acl_in Try.func123 rfl isfn_123 (Nat.le_of_ble_eq_true rfl) (fun R hR => ?_); rw [Try.results123] at hR; refine wg_run ?_; (simp only [Try.f123, go_sem])
      repeat' (first | (first | (simp only [go_sem, int_bne]) | (((first | refine sp1 ?_ ?_ | refine sp2 ?_ ?_ | refine sp3 ?_ ?_ | refine sp4 ?_ ?_ | refine sp5 ?_ ?_ | refine sp6 ?_ ?_ | refine sp7 ?_ ?_) <;> intro hb) <;> (simp only [go_sem, hb, int_bne])) | ((first | refine wm_done ?_ | refine wt_done ?_ | refine wg_run ?_ | refine fk ?_ ?_) <;> (simp only [go_sem, int_bne]))) | ((first | refine mx 6 [] follows ?_ | refine mx 5 [] follows ?_ | refine mx 4 [] follows ?_ | refine mx 3 [] follows ?_ | refine mx 2 [] follows ?_ | refine mx 1 [] follows ?_ | refine mx 0 [] follows ?_ | fail); (simp only [go_sem, int_bne])) | fail)
      (refine hR _ ?_; refine rat [] (hK := ⟨rfl, rfl⟩))
  | ite a b c =>
    cases a <;> simp only [E.ruleI, ruT] <;> simp only [E.tm, nd]
    all_goals
      refine fn_in ?_; refine acl_in Try.func123 rfl isfn_123 (Nat.le_of_ble_eq_true rfl) (fun R hR => ?_); rw [Try.results123] at hR; refine wg_run ?_; (simp only [Try.f123, go_sem])
      repeat' (first | (first | (simp only [go_sem, int_bne]) | (((first | refine sp1 ?_ ?_ | refine sp2 ?_ ?_ | refine sp3 ?_ ?_ | refine sp4 ?_ ?_ | refine sp5 ?_ ?_ | refine sp6 ?_ ?_ | refine sp7 ?_ ?_) <;> intro hb) <;> (simp only [go_sem, hb, int_bne])) | ((first | refine wm_done ?_ | refine wt_done ?_ | refine wg_run ?_ | refine fk ?_ ?_) <;> (simp only [go_sem, int_bne]))) | ((first | refine mx 6 [] follows ?_ | refine mx 5 [] follows ?_ | refine mx 4 [] follows ?_ | refine mx 3 [] follows ?_ | refine mx 2 [] follows ?_ | refine mx 1 [] follows ?_ | refine mx 0 [] follows ?_ | fail); (simp only [go_sem, int_bne])) | fail)
      (refine hR _ ?_; refine rat [] (hK := ⟨rfl, rfl⟩))
  | fst a =>
    cases a <;> simp only [E.ruleI, ruT] <;> simp only [E.tm, nd]
    all_goals
      refine fn_in ?_; refine acl_in Try.func123 rfl isfn_123 (Nat.le_of_ble_eq_true rfl) (fun R hR => ?_); rw [Try.results123] at hR; refine wg_run ?_; (simp only [Try.f123, go_sem])
      repeat' (first | (first | (simp only [go_sem, int_bne]) | (((first | refine sp1 ?_ ?_ | refine sp2 ?_ ?_ | refine sp3 ?_ ?_ | refine sp4 ?_ ?_ | refine sp5 ?_ ?_ | refine sp6 ?_ ?_ | refine sp7 ?_ ?_) <;> intro hb) <;> (simp only [go_sem, hb, int_bne])) | ((first | refine wm_done ?_ | refine wt_done ?_ | refine wg_run ?_ | refine fk ?_ ?_) <;> (simp only [go_sem, int_bne]))) | ((first | refine mx 6 [] follows ?_ | refine mx 5 [] follows ?_ | refine mx 4 [] follows ?_ | refine mx 3 [] follows ?_ | refine mx 2 [] follows ?_ | refine mx 1 [] follows ?_ | refine mx 0 [] follows ?_ | fail); (simp only [go_sem, int_bne])) | fail)
      (refine hR _ ?_; refine rat [] (hK := ⟨rfl, rfl⟩))
  | snd a =>
    cases a <;> simp only [E.ruleI, ruT] <;> simp only [E.tm, nd]
    all_goals
      refine fn_in ?_; refine acl_in Try.func123 rfl isfn_123 (Nat.le_of_ble_eq_true rfl) (fun R hR => ?_); rw [Try.results123] at hR; refine wg_run ?_; (simp only [Try.f123, go_sem])
      repeat' (first | (first | (simp only [go_sem, int_bne]) | (((first | refine sp1 ?_ ?_ | refine sp2 ?_ ?_ | refine sp3 ?_ ?_ | refine sp4 ?_ ?_ | refine sp5 ?_ ?_ | refine sp6 ?_ ?_ | refine sp7 ?_ ?_) <;> intro hb) <;> (simp only [go_sem, hb, int_bne])) | ((first | refine wm_done ?_ | refine wt_done ?_ | refine wg_run ?_ | refine fk ?_ ?_) <;> (simp only [go_sem, int_bne]))) | ((first | refine mx 6 [] follows ?_ | refine mx 5 [] follows ?_ | refine mx 4 [] follows ?_ | refine mx 3 [] follows ?_ | refine mx 2 [] follows ?_ | refine mx 1 [] follows ?_ | refine mx 0 [] follows ?_ | fail); (simp only [go_sem, int_bne])) | fail)
      (refine hR _ ?_; refine rat [] (hK := ⟨rfl, rfl⟩))
  | _ =>
    simp only [E.ruleI, ruT]
    simp only [E.tm, nd]
    refine fn_in ?_; refine acl_in Try.func123 rfl isfn_123 (Nat.le_of_ble_eq_true rfl) (fun R hR => ?_); rw [Try.results123] at hR; refine wg_run ?_; (simp only [Try.f123, go_sem])
    repeat' (first | (first | (simp only [go_sem, int_bne]) | (((first | refine sp1 ?_ ?_ | refine sp2 ?_ ?_ | refine sp3 ?_ ?_ | refine sp4 ?_ ?_ | refine sp5 ?_ ?_ | refine sp6 ?_ ?_ | refine sp7 ?_ ?_) <;> intro hb) <;> (simp only [go_sem, hb, int_bne])) | ((first | refine wm_done ?_ | refine wt_done ?_ | refine wg_run ?_ | refine fk ?_ ?_) <;> (simp only [go_sem, int_bne]))) | ((first | refine mx 6 [] follows ?_ | refine mx 5 [] follows ?_ | refine mx 4 [] follows ?_ | refine mx 3 [] follows ?_ | refine mx 2 [] follows ?_ | refine mx 1 [] follows ?_ | refine mx 0 [] follows ?_ | fail); (simp only [go_sem, int_bne])) | fail)
    (refine hR _ ?_; refine rat [] (hK := ⟨rfl, rfl⟩))
end Go.Proofs.Ytnaebafafhamjaa
/- Steps of terms with casts: the rules for casts, in the program. On shadows. -/
namespace Go.Proofs.Ytnaebafafhamjaa
open Go.RowKit Go.Proofs.Sh Go.Proofs.Grad
set_option maxRecDepth 100000
set_option maxHeartbeats 8000000
theorem iInj0 (t : Tm) (h : (t.kind == 14) = false) : AFn Try.prog 117 [.agg (teC t)] (.one (.sc (.bool false))) := by
  refine fn_in ?_; refine acl_in Try.func117 rfl isfn_117 (Nat.le_of_ble_eq_true rfl) (fun R hR => ?_); rw [Try.results117] at hR; refine wg_run ?_; (simp only [Try.f117, go_sem, h])
  repeat' (first | (simp only [go_sem, h]) | (((first | refine sp1 ?_ ?_ | refine sp2 ?_ ?_ | refine sp3 ?_ ?_ | refine sp4 ?_ ?_ | refine sp5 ?_ ?_ | refine sp6 ?_ ?_ | refine sp7 ?_ ?_) <;> intro hb) <;> (simp only [go_sem, hb, h])) | ((first | refine wm_done ?_ | refine wt_done ?_ | refine wg_run ?_ | refine fk ?_ ?_) <;> (simp only [go_sem, h])))
  all_goals (refine hR _ ?_; refine rat [] (hK := ⟨rfl, rfl⟩))
theorem iProxy0 (t : Tm) (h : (t.kind == 14) = false) : AFn Try.prog 116 [.agg (teC t)] (.one (.sc (.bool false))) := by
  refine fn_in ?_; refine acl_in Try.func116 rfl isfn_116 (Nat.le_of_ble_eq_true rfl) (fun R hR => ?_); rw [Try.results116] at hR; refine wg_run ?_; (simp only [Try.f116, go_sem, h])
  repeat' (first | (simp only [go_sem, h]) | (((first | refine sp1 ?_ ?_ | refine sp2 ?_ ?_ | refine sp3 ?_ ?_ | refine sp4 ?_ ?_ | refine sp5 ?_ ?_ | refine sp6 ?_ ?_ | refine sp7 ?_ ?_) <;> intro hb) <;> (simp only [go_sem, hb, h])) | ((first | refine wm_done ?_ | refine wt_done ?_ | refine wg_run ?_ | refine fk ?_ ?_) <;> (simp only [go_sem, h])))
  all_goals (refine hR _ ?_; refine rat [] (hK := ⟨rfl, rfl⟩))
def srT (r : SR) : AV := .tup [.agg (teC r.tm), .one (.sc (.int .i64 r.code)), .one (.sc (.int .i64 r.lab))]
/-- the rule of casts, at a cast -/
theorem iCastRule0 (s t : T) (l : Int) (v : E) (h : (E.cast s t l v).wf = true) (hz : v.tm.size < 100000000) : AFn Try.prog 124 [.agg (teC (E.cast s t l v).tm)] (srT (ruleCast s t l v)) := by
  simp only [E.wf, Bool.and_eq_true, decide_eq_true_eq] at h
  have gs := iGround s
  have gt := iGround t
  rw [← T.ty_kind] at gs gt
  have hig := iIsGround t.ty (by have := T.ty_small h.1.2; omega)
  rw [T.isG_ty] at hig
  have c1 := fun f y => iCasted v.tm f y l
  have c2 := fun a f y => iCasted (.mk 14 ByteArray.empty 0 a s.ty l [v.tm]) f y l
  unfold ruleCast
  cases e1 : (s.ty.kind == t.ty.kind)
  · cases e2 : (t.ty.kind == 1)
    · cases e3 : t.isG
      · rw [e3] at hig
        simp only [srT, SR.tm, SR.code, SR.lab]
        simp only [E.tm]
        refine fn_in ?_; refine acl_in Try.func124 rfl isfn_124 (Nat.le_of_ble_eq_true rfl) (fun R hR => ?_); rw [Try.results124] at hR; refine wg_run ?_; (simp only [Try.f124, go_sem, e1, e2])
        repeat' (first | (first | (simp only [go_sem, e1, e2, int_bne]) | (((first | refine sp1 ?_ ?_ | refine sp2 ?_ ?_ | refine sp3 ?_ ?_ | refine sp4 ?_ ?_ | refine sp5 ?_ ?_ | refine sp6 ?_ ?_ | refine sp7 ?_ ?_) <;> intro hb) <;> (simp only [go_sem, hb, e1, e2, int_bne])) | ((first | refine wm_done ?_ | refine wt_done ?_ | refine wg_run ?_ | refine fk ?_ ?_) <;> (simp only [go_sem, e1, e2, int_bne]))) | (first | (refine tr (.op 0 false (.op 1 false (.op 2 false (.op 3 false (.op 4 false (.op 5 false (.op 6 false (.op 7 false (.fork 8 false (.op 9 false (.op 10 false (.op 11 true .nil))) (.op 9 false (.op 8 false (.op 10 false (.op 11 true .nil))))))))))))) [1] follows ?_; (simp only [go_sem, e1, e2, int_bne])) | (refine tr (.op 0 false (.op 1 false (.op 2 false (.op 3 false (.op 4 false (.op 5 false .nil)))))) [1] follows ?_; (simp only [go_sem, e1, e2, int_bne])) | fail) | ((first | refine mx 6 [] follows ?_ | refine mx 5 [] follows ?_ | refine mx 4 [] follows ?_ | refine mx 3 [] follows ?_ | refine mx 2 [] follows ?_ | refine mx 1 [] follows ?_ | refine mx 0 [] follows ?_ | fail); (simp only [go_sem, e1, e2, int_bne])) | (first | refine cd (hc := gt) (hK := ?_) | refine cm (hc := gt) (hK := ?_) | refine ct (hc := gt) (hK := ?_)); (simp only [go_sem]) | (first | refine cd (hc := hig) (hK := ?_) | refine cm (hc := hig) (hK := ?_) | refine ct (hc := hig) (hK := ?_)); (simp only [go_sem]) | (first | refine cd (hc := c1 _ _) (hK := ?_) | refine cm (hc := c1 _ _) (hK := ?_) | refine ct (hc := c1 _ _) (hK := ?_)); (simp only [go_sem]) | (first | refine cd (hc := c2 _ _ _) (hK := ?_) | refine cm (hc := c2 _ _ _) (hK := ?_) | refine ct (hc := c2 _ _ _) (hK := ?_)); (simp only [go_sem]) | fail)
        all_goals (refine hR _ ?_; refine rat [] (hK := ⟨rfl, rfl⟩))
      · rw [e3] at hig
        cases v with
        | cast s' t' l' w =>
          have h' := h.2.2.2
          simp only [E.wf, Bool.and_eq_true, decide_eq_true_eq] at h'
          have hi := iInj (E.cast s' t' l' w).tm (by omega)
          simp only [E.tm, Tm.kind, Tm.type, Tm.frm] at hi
          rw [injB_T] at hi
          have hs := iSame 1000 (by omega) s'.ty t.ty (T.ty_small h'.1.1)
          simp only [ruleOut]
          cases e4 : injT s' t'
          · rw [e4] at hi
            simp only [srT, SR.tm, SR.code, SR.lab]
            simp only [E.tm]
            refine fn_in ?_; refine acl_in Try.func124 rfl isfn_124 (Nat.le_of_ble_eq_true rfl) (fun R hR => ?_); rw [Try.results124] at hR; refine wg_run ?_; (simp only [Try.f124, go_sem, e1, e2])
            repeat' (first | (first | (simp only [go_sem, e1, e2, int_bne]) | (((first | refine sp1 ?_ ?_ | refine sp2 ?_ ?_ | refine sp3 ?_ ?_ | refine sp4 ?_ ?_ | refine sp5 ?_ ?_ | refine sp6 ?_ ?_ | refine sp7 ?_ ?_) <;> intro hb) <;> (simp only [go_sem, hb, e1, e2, int_bne])) | ((first | refine wm_done ?_ | refine wt_done ?_ | refine wg_run ?_ | refine fk ?_ ?_) <;> (simp only [go_sem, e1, e2, int_bne]))) | (first | (refine tr (.op 0 false (.op 1 false (.op 2 false (.op 3 false (.op 4 false (.op 5 false (.op 6 false (.op 7 false (.fork 8 false (.op 9 false (.op 10 false (.op 11 true .nil))) (.op 9 false (.op 8 false (.op 10 false (.op 11 true .nil))))))))))))) [1] follows ?_; (simp only [go_sem, e1, e2, int_bne])) | (refine tr (.op 0 false (.op 1 false (.op 2 false (.op 3 false (.op 4 false (.op 5 false .nil)))))) [1] follows ?_; (simp only [go_sem, e1, e2, int_bne])) | fail) | ((first | refine mx 6 [] follows ?_ | refine mx 5 [] follows ?_ | refine mx 4 [] follows ?_ | refine mx 3 [] follows ?_ | refine mx 2 [] follows ?_ | refine mx 1 [] follows ?_ | refine mx 0 [] follows ?_ | fail); (simp only [go_sem, e1, e2, int_bne])) | (first | refine cd (hc := hig) (hK := ?_) | refine cm (hc := hig) (hK := ?_) | refine ct (hc := hig) (hK := ?_)); (simp only [go_sem]) | (first | refine cd (hc := hi) (hK := ?_) | refine cm (hc := hi) (hK := ?_) | refine ct (hc := hi) (hK := ?_)); (simp only [go_sem]) | fail)
            all_goals (refine hR _ ?_; refine rat [] (hK := ⟨rfl, rfl⟩))
          · rw [e4] at hi
            have e5 : s'.isG = true := by simp only [injT, Bool.and_eq_true] at e4; exact e4.2
            rw [T.same_G e5 e3] at hs
            cases e6 : (s'.ty.kind == t.ty.kind)
            all_goals
              rw [e6] at hs
              simp only [srT, SR.tm, SR.code, SR.lab]
              simp only [E.tm]
              refine fn_in ?_; refine acl_in Try.func124 rfl isfn_124 (Nat.le_of_ble_eq_true rfl) (fun R hR => ?_); rw [Try.results124] at hR; refine wg_run ?_; (simp only [Try.f124, go_sem, e1, e2])
              repeat' (first | (first | (simp only [go_sem, e1, e2, int_bne]) | (((first | refine sp1 ?_ ?_ | refine sp2 ?_ ?_ | refine sp3 ?_ ?_ | refine sp4 ?_ ?_ | refine sp5 ?_ ?_ | refine sp6 ?_ ?_ | refine sp7 ?_ ?_) <;> intro hb) <;> (simp only [go_sem, hb, e1, e2, int_bne])) | ((first | refine wm_done ?_ | refine wt_done ?_ | refine wg_run ?_ | refine fk ?_ ?_) <;> (simp only [go_sem, e1, e2, int_bne]))) | (first | (refine tr (.op 0 false (.op 1 false (.op 2 false (.op 3 false (.op 4 false (.op 5 false (.op 6 false (.op 7 false (.fork 8 false (.op 9 false (.op 10 false (.op 11 true .nil))) (.op 9 false (.op 8 false (.op 10 false (.op 11 true .nil))))))))))))) [1] follows ?_; (simp only [go_sem, e1, e2, int_bne])) | (refine tr (.op 0 false (.op 1 false (.op 2 false (.op 3 false (.op 4 false (.op 5 false .nil)))))) [1] follows ?_; (simp only [go_sem, e1, e2, int_bne])) | fail) | ((first | refine mx 6 [] follows ?_ | refine mx 5 [] follows ?_ | refine mx 4 [] follows ?_ | refine mx 3 [] follows ?_ | refine mx 2 [] follows ?_ | refine mx 1 [] follows ?_ | refine mx 0 [] follows ?_ | fail); (simp only [go_sem, e1, e2, int_bne])) | (first | refine cd (hc := hig) (hK := ?_) | refine cm (hc := hig) (hK := ?_) | refine ct (hc := hig) (hK := ?_)); (simp only [go_sem]) | (first | refine cd (hc := hi) (hK := ?_) | refine cm (hc := hi) (hK := ?_) | refine ct (hc := hi) (hK := ?_)); (simp only [go_sem]) | (first | refine cd (hc := hs) (hK := ?_) | refine cm (hc := hs) (hK := ?_) | refine ct (hc := hs) (hK := ?_)); (simp only [go_sem]) | fail)
              all_goals (refine hR _ ?_; refine rat [] (hK := ⟨rfl, rfl⟩))
        | _ =>
          simp only [ruleOut]
          simp only [srT, SR.tm, SR.code, SR.lab]
          simp only [E.tm, nd]
          refine fn_in ?_; refine acl_in Try.func124 rfl isfn_124 (Nat.le_of_ble_eq_true rfl) (fun R hR => ?_); rw [Try.results124] at hR; refine wg_run ?_; (simp only [Try.f124, go_sem, e1, e2])
          repeat' (first | (first | (simp only [go_sem, e1, e2, int_bne]) | (((first | refine sp1 ?_ ?_ | refine sp2 ?_ ?_ | refine sp3 ?_ ?_ | refine sp4 ?_ ?_ | refine sp5 ?_ ?_ | refine sp6 ?_ ?_ | refine sp7 ?_ ?_) <;> intro hb) <;> (simp only [go_sem, hb, e1, e2, int_bne])) | ((first | refine wm_done ?_ | refine wt_done ?_ | refine wg_run ?_ | refine fk ?_ ?_) <;> (simp only [go_sem, e1, e2, int_bne]))) | (first | (refine tr (.op 0 false (.op 1 false (.op 2 false (.op 3 false (.op 4 false (.op 5 false (.op 6 false (.op 7 false (.fork 8 false (.op 9 false (.op 10 false (.op 11 true .nil))) (.op 9 false (.op 8 false (.op 10 false (.op 11 true .nil))))))))))))) [1] follows ?_; (simp only [go_sem, e1, e2, int_bne])) | (refine tr (.op 0 false (.op 1 false (.op 2 false (.op 3 false (.op 4 false (.op 5 false .nil)))))) [1] follows ?_; (simp only [go_sem, e1, e2, int_bne])) | fail) | ((first | refine mx 6 [] follows ?_ | refine mx 5 [] follows ?_ | refine mx 4 [] follows ?_ | refine mx 3 [] follows ?_ | refine mx 2 [] follows ?_ | refine mx 1 [] follows ?_ | refine mx 0 [] follows ?_ | fail); (simp only [go_sem, e1, e2, int_bne])) | (first | refine cd (hc := hig) (hK := ?_) | refine cm (hc := hig) (hK := ?_) | refine ct (hc := hig) (hK := ?_)); (simp only [go_sem]) | (first | refine cd (hc := iInj0 _ rfl) (hK := ?_) | refine cm (hc := iInj0 _ rfl) (hK := ?_) | refine ct (hc := iInj0 _ rfl) (hK := ?_)); (simp only [go_sem]) | fail)
          all_goals (refine hR _ ?_; refine rat [] (hK := ⟨rfl, rfl⟩))
    · have ht := kind_one e2
      subst ht
      have e1' : (s.ty.kind == (1 : Int)) = false := e1
      simp only [srT, SR.tm, SR.code, SR.lab]
      simp only [E.tm, T.ty]
      refine fn_in ?_; refine acl_in Try.func124 rfl isfn_124 (Nat.le_of_ble_eq_true rfl) (fun R hR => ?_); rw [Try.results124] at hR; refine wg_run ?_; (simp only [Try.f124, go_sem, e1'])
      repeat' (first | (first | (simp only [go_sem, e1', int_bne]) | (((first | refine sp1 ?_ ?_ | refine sp2 ?_ ?_ | refine sp3 ?_ ?_ | refine sp4 ?_ ?_ | refine sp5 ?_ ?_ | refine sp6 ?_ ?_ | refine sp7 ?_ ?_) <;> intro hb) <;> (simp only [go_sem, hb, e1', int_bne])) | ((first | refine wm_done ?_ | refine wt_done ?_ | refine wg_run ?_ | refine fk ?_ ?_) <;> (simp only [go_sem, e1', int_bne]))) | (first | (refine tr (.op 0 false (.op 1 false (.op 2 false (.op 3 false (.op 4 false (.op 5 false (.op 6 false (.op 7 false (.fork 8 false (.op 9 false (.op 10 false (.op 11 true .nil))) (.op 9 false (.op 8 false (.op 10 false (.op 11 true .nil))))))))))))) [1] follows ?_; (simp only [go_sem, e1', int_bne])) | (refine tr (.op 0 false (.op 1 false (.op 2 false (.op 3 false (.op 4 false (.op 5 false .nil)))))) [1] follows ?_; (simp only [go_sem, e1', int_bne])) | fail) | ((first | refine mx 6 [] follows ?_ | refine mx 5 [] follows ?_ | refine mx 4 [] follows ?_ | refine mx 3 [] follows ?_ | refine mx 2 [] follows ?_ | refine mx 1 [] follows ?_ | refine mx 0 [] follows ?_ | fail); (simp only [go_sem, e1', int_bne])) | (first | refine cd (hc := gs) (hK := ?_) | refine cm (hc := gs) (hK := ?_) | refine ct (hc := gs) (hK := ?_)); (simp only [go_sem]) | (first | refine cd (hc := c1 _ _) (hK := ?_) | refine cm (hc := c1 _ _) (hK := ?_) | refine ct (hc := c1 _ _) (hK := ?_)); (simp only [go_sem]) | (first | refine cd (hc := c2 _ _ _) (hK := ?_) | refine cm (hc := c2 _ _ _) (hK := ?_) | refine ct (hc := c2 _ _ _) (hK := ?_)); (simp only [go_sem]) | fail)
      all_goals (refine hR _ ?_; refine rat [] (hK := ⟨rfl, rfl⟩))
  · simp only [srT, SR.tm, SR.code, SR.lab]
    simp only [E.tm]
    refine fn_in ?_; refine acl_in Try.func124 rfl isfn_124 (Nat.le_of_ble_eq_true rfl) (fun R hR => ?_); rw [Try.results124] at hR; refine wg_run ?_; (simp only [Try.f124, go_sem, e1])
    repeat' (first | (first | (simp only [go_sem, e1, int_bne]) | (((first | refine sp1 ?_ ?_ | refine sp2 ?_ ?_ | refine sp3 ?_ ?_ | refine sp4 ?_ ?_ | refine sp5 ?_ ?_ | refine sp6 ?_ ?_ | refine sp7 ?_ ?_) <;> intro hb) <;> (simp only [go_sem, hb, e1, int_bne])) | ((first | refine wm_done ?_ | refine wt_done ?_ | refine wg_run ?_ | refine fk ?_ ?_) <;> (simp only [go_sem, e1, int_bne]))) | (first | (refine tr (.op 0 false (.op 1 false (.op 2 false (.op 3 false (.op 4 false (.op 5 false (.op 6 false (.op 7 false (.fork 8 false (.op 9 false (.op 10 false (.op 11 true .nil))) (.op 9 false (.op 8 false (.op 10 false (.op 11 true .nil))))))))))))) [1] follows ?_; (simp only [go_sem, e1, int_bne])) | (refine tr (.op 0 false (.op 1 false (.op 2 false (.op 3 false (.op 4 false (.op 5 false .nil)))))) [1] follows ?_; (simp only [go_sem, e1, int_bne])) | fail) | ((first | refine mx 6 [] follows ?_ | refine mx 5 [] follows ?_ | refine mx 4 [] follows ?_ | refine mx 3 [] follows ?_ | refine mx 2 [] follows ?_ | refine mx 1 [] follows ?_ | refine mx 0 [] follows ?_ | fail); (simp only [go_sem, e1, int_bne])) | fail)
    all_goals (refine hR _ ?_; refine rat [] (hK := ⟨rfl, rfl⟩))
theorem iCastRule (e : E) (h : e.wf = true) (hz : e.tm.size < 100000000) (hk : e.tm.kids ≠ []) : AFn Try.prog 124 [.agg (teC e.tm)] (srT e.castR) := by
  cases e with
  | cast s t l v => exact iCastRule0 s t l v h (by simp only [E.tm, Tm.size, Tm.sizes] at hz; omega)
  | app a b =>
    cases a with
    | cast s t l f =>
      simp only [E.wf, Bool.and_eq_true, decide_eq_true_eq] at h
      have hp := iProxy (E.cast s t l f).tm
      simp only [E.tm, Tm.kind, Tm.type, Tm.frm] at hp
      rw [proxyB_T] at hp
      have hn := fun ks => iNode 6 ks
      have c1 := fun a f y l => iCasted a f y l
      have hw : IntKind.i64.wrap (0 - l) = -l := by have := lab_bd2 h.1.2.2.1; rw [IntWalk.i64_in _ (by omega)]; omega
      cases s <;> cases t <;> simp only [proxyT, T.isFn, T.isPr, Bool.false_and, Bool.and_false, Bool.and_true, Bool.true_and, Bool.or_false, Bool.or_true, Bool.or_self] at hp
      all_goals
        simp only [E.castR, srT, SR.tm, SR.code, SR.lab]
        simp only [E.tm, nd, T.ty] at hp ⊢
        refine fn_in ?_; refine acl_in Try.func124 rfl isfn_124 (Nat.le_of_ble_eq_true rfl) (fun R hR => ?_); rw [Try.results124] at hR; refine wg_run ?_; (simp only [Try.f124, go_sem, hw])
        repeat' (first | (first | (simp only [go_sem, hw, int_bne]) | (((first | refine sp1 ?_ ?_ | refine sp2 ?_ ?_ | refine sp3 ?_ ?_ | refine sp4 ?_ ?_ | refine sp5 ?_ ?_ | refine sp6 ?_ ?_ | refine sp7 ?_ ?_) <;> intro hb) <;> (simp only [go_sem, hb, hw, int_bne])) | ((first | refine wm_done ?_ | refine wt_done ?_ | refine wg_run ?_ | refine fk ?_ ?_) <;> (simp only [go_sem, hw, int_bne]))) | (first | (refine tr (.op 0 false (.op 1 false (.op 2 false (.op 3 false (.op 4 false (.op 5 false (.op 6 false (.op 7 false (.fork 8 false (.op 9 false (.op 10 false (.op 11 true .nil))) (.op 9 false (.op 8 false (.op 10 false (.op 11 true .nil))))))))))))) [1] follows ?_; (simp only [go_sem, hw, int_bne])) | (refine tr (.op 0 false (.op 1 false (.op 2 false (.op 3 false (.op 4 false (.op 5 false .nil)))))) [1] follows ?_; (simp only [go_sem, hw, int_bne])) | fail) | ((first | refine mx 6 [] follows ?_ | refine mx 5 [] follows ?_ | refine mx 4 [] follows ?_ | refine mx 3 [] follows ?_ | refine mx 2 [] follows ?_ | refine mx 1 [] follows ?_ | refine mx 0 [] follows ?_ | fail); (simp only [go_sem, hw, int_bne])) | (first | refine cd (hc := hp) (hK := ?_) | refine cm (hc := hp) (hK := ?_) | refine ct (hc := hp) (hK := ?_)); (simp only [go_sem]) | (first | refine cd (hc := c1 _ _ _ _) (hK := ?_) | refine cm (hc := c1 _ _ _ _) (hK := ?_) | refine ct (hc := c1 _ _ _ _) (hK := ?_)); (simp only [go_sem]) | (first | refine cd (hc := hn [_, _]) (hK := ?_) | refine cm (hc := hn [_, _]) (hK := ?_) | refine ct (hc := hn [_, _]) (hK := ?_)); (simp only [go_sem]) | fail)
        all_goals (refine hR _ ?_; refine rat [] (hK := ⟨rfl, rfl⟩))
    | _ =>
      simp only [E.castR, srT, SR.tm, SR.code, SR.lab]
      simp only [E.tm, nd]
      refine fn_in ?_; refine acl_in Try.func124 rfl isfn_124 (Nat.le_of_ble_eq_true rfl) (fun R hR => ?_); rw [Try.results124] at hR; refine wg_run ?_; (simp only [Try.f124, go_sem])
      repeat' (first | (first | (simp only [go_sem, int_bne]) | (((first | refine sp1 ?_ ?_ | refine sp2 ?_ ?_ | refine sp3 ?_ ?_ | refine sp4 ?_ ?_ | refine sp5 ?_ ?_ | refine sp6 ?_ ?_ | refine sp7 ?_ ?_) <;> intro hb) <;> (simp only [go_sem, hb, int_bne])) | ((first | refine wm_done ?_ | refine wt_done ?_ | refine wg_run ?_ | refine fk ?_ ?_) <;> (simp only [go_sem, int_bne]))) | (first | (refine tr (.op 0 false (.op 1 false (.op 2 false (.op 3 false (.op 4 false (.op 5 false (.op 6 false (.op 7 false (.fork 8 false (.op 9 false (.op 10 false (.op 11 true .nil))) (.op 9 false (.op 8 false (.op 10 false (.op 11 true .nil))))))))))))) [1] follows ?_; (simp only [go_sem, int_bne])) | (refine tr (.op 0 false (.op 1 false (.op 2 false (.op 3 false (.op 4 false (.op 5 false .nil)))))) [1] follows ?_; (simp only [go_sem, int_bne])) | fail) | ((first | refine mx 6 [] follows ?_ | refine mx 5 [] follows ?_ | refine mx 4 [] follows ?_ | refine mx 3 [] follows ?_ | refine mx 2 [] follows ?_ | refine mx 1 [] follows ?_ | refine mx 0 [] follows ?_ | fail); (simp only [go_sem, int_bne])) | (first | refine cd (hc := iProxy0 _ rfl) (hK := ?_) | refine cm (hc := iProxy0 _ rfl) (hK := ?_) | refine ct (hc := iProxy0 _ rfl) (hK := ?_)); (simp only [go_sem]) | fail)
      all_goals (refine hR _ ?_; refine rat [] (hK := ⟨rfl, rfl⟩))
  | fst a | snd a =>
    cases a with
    | cast s t l f =>
      have hp := iProxy (E.cast s t l f).tm
      simp only [E.tm, Tm.kind, Tm.type, Tm.frm] at hp
      rw [proxyB_T] at hp
      have hn := fun k ks => iNode k ks
      have c1 := fun a f y l => iCasted a f y l
      cases s <;> cases t <;> simp only [proxyT, T.isFn, T.isPr, Bool.false_and, Bool.and_false, Bool.and_true, Bool.true_and, Bool.or_false, Bool.or_true, Bool.or_self] at hp
      all_goals
        simp only [E.castR, srT, SR.tm, SR.code, SR.lab]
        simp only [E.tm, nd, T.ty] at hp ⊢
        refine fn_in ?_; refine acl_in Try.func124 rfl isfn_124 (Nat.le_of_ble_eq_true rfl) (fun R hR => ?_); rw [Try.results124] at hR; refine wg_run ?_; (simp only [Try.f124, go_sem])
        repeat' (first | (first | (simp only [go_sem, int_bne]) | (((first | refine sp1 ?_ ?_ | refine sp2 ?_ ?_ | refine sp3 ?_ ?_ | refine sp4 ?_ ?_ | refine sp5 ?_ ?_ | refine sp6 ?_ ?_ | refine sp7 ?_ ?_) <;> intro hb) <;> (simp only [go_sem, hb, int_bne])) | ((first | refine wm_done ?_ | refine wt_done ?_ | refine wg_run ?_ | refine fk ?_ ?_) <;> (simp only [go_sem, int_bne]))) | (first | (refine tr (.op 0 false (.op 1 false (.op 2 false (.op 3 false (.op 4 false (.op 5 false (.op 6 false (.op 7 false (.fork 8 false (.op 9 false (.op 10 false (.op 11 true .nil))) (.op 9 false (.op 8 false (.op 10 false (.op 11 true .nil))))))))))))) [1] follows ?_; (simp only [go_sem, int_bne])) | (refine tr (.op 0 false (.op 1 false (.op 2 false (.op 3 false (.op 4 false (.op 5 false .nil)))))) [1] follows ?_; (simp only [go_sem, int_bne])) | fail) | ((first | refine mx 6 [] follows ?_ | refine mx 5 [] follows ?_ | refine mx 4 [] follows ?_ | refine mx 3 [] follows ?_ | refine mx 2 [] follows ?_ | refine mx 1 [] follows ?_ | refine mx 0 [] follows ?_ | fail); (simp only [go_sem, int_bne])) | (first | refine cd (hc := hp) (hK := ?_) | refine cm (hc := hp) (hK := ?_) | refine ct (hc := hp) (hK := ?_)); (simp only [go_sem]) | (first | refine cd (hc := c1 _ _ _ _) (hK := ?_) | refine cm (hc := c1 _ _ _ _) (hK := ?_) | refine ct (hc := c1 _ _ _ _) (hK := ?_)); (simp only [go_sem]) | (first | refine cd (hc := hn _ [_]) (hK := ?_) | refine cm (hc := hn _ [_]) (hK := ?_) | refine ct (hc := hn _ [_]) (hK := ?_)); (simp only [go_sem]) | fail)
        all_goals (refine hR _ ?_; refine rat [] (hK := ⟨rfl, rfl⟩))
    | _ =>
      simp only [E.castR, srT, SR.tm, SR.code, SR.lab]
      simp only [E.tm, nd]
      refine fn_in ?_; refine acl_in Try.func124 rfl isfn_124 (Nat.le_of_ble_eq_true rfl) (fun R hR => ?_); rw [Try.results124] at hR; refine wg_run ?_; (simp only [Try.f124, go_sem])
      repeat' (first | (first | (simp only [go_sem, int_bne]) | (((first | refine sp1 ?_ ?_ | refine sp2 ?_ ?_ | refine sp3 ?_ ?_ | refine sp4 ?_ ?_ | refine sp5 ?_ ?_ | refine sp6 ?_ ?_ | refine sp7 ?_ ?_) <;> intro hb) <;> (simp only [go_sem, hb, int_bne])) | ((first | refine wm_done ?_ | refine wt_done ?_ | refine wg_run ?_ | refine fk ?_ ?_) <;> (simp only [go_sem, int_bne]))) | (first | (refine tr (.op 0 false (.op 1 false (.op 2 false (.op 3 false (.op 4 false (.op 5 false (.op 6 false (.op 7 false (.fork 8 false (.op 9 false (.op 10 false (.op 11 true .nil))) (.op 9 false (.op 8 false (.op 10 false (.op 11 true .nil))))))))))))) [1] follows ?_; (simp only [go_sem, int_bne])) | (refine tr (.op 0 false (.op 1 false (.op 2 false (.op 3 false (.op 4 false (.op 5 false .nil)))))) [1] follows ?_; (simp only [go_sem, int_bne])) | fail) | ((first | refine mx 6 [] follows ?_ | refine mx 5 [] follows ?_ | refine mx 4 [] follows ?_ | refine mx 3 [] follows ?_ | refine mx 2 [] follows ?_ | refine mx 1 [] follows ?_ | refine mx 0 [] follows ?_ | fail); (simp only [go_sem, int_bne])) | (first | refine cd (hc := iProxy0 _ rfl) (hK := ?_) | refine cm (hc := iProxy0 _ rfl) (hK := ?_) | refine ct (hc := iProxy0 _ rfl) (hK := ?_)); (simp only [go_sem]) | fail)
      all_goals (refine hR _ ?_; refine rat [] (hK := ⟨rfl, rfl⟩))
  | var _ | num _ | tru | fls => simp [E.tm, nd, Tm.kids] at hk
  | _ =>
    simp only [E.castR, srT, SR.tm, SR.code, SR.lab]
    simp only [E.tm, nd]
    refine fn_in ?_; refine acl_in Try.func124 rfl isfn_124 (Nat.le_of_ble_eq_true rfl) (fun R hR => ?_); rw [Try.results124] at hR; refine wg_run ?_; (simp only [Try.f124, go_sem])
    repeat' (first | (first | (simp only [go_sem, int_bne]) | (((first | refine sp1 ?_ ?_ | refine sp2 ?_ ?_ | refine sp3 ?_ ?_ | refine sp4 ?_ ?_ | refine sp5 ?_ ?_ | refine sp6 ?_ ?_ | refine sp7 ?_ ?_) <;> intro hb) <;> (simp only [go_sem, hb, int_bne])) | ((first | refine wm_done ?_ | refine wt_done ?_ | refine wg_run ?_ | refine fk ?_ ?_) <;> (simp only [go_sem, int_bne]))) | (first | (refine tr (.op 0 false (.op 1 false (.op 2 false (.op 3 false (.op 4 false (.op 5 false (.op 6 false (.op 7 false (.fork 8 false (.op 9 false (.op 10 false (.op 11 true .nil))) (.op 9 false (.op 8 false (.op 10 false (.op 11 true .nil))))))))))))) [1] follows ?_; (simp only [go_sem, int_bne])) | (refine tr (.op 0 false (.op 1 false (.op 2 false (.op 3 false (.op 4 false (.op 5 false .nil)))))) [1] follows ?_; (simp only [go_sem, int_bne])) | fail) | ((first | refine mx 6 [] follows ?_ | refine mx 5 [] follows ?_ | refine mx 4 [] follows ?_ | refine mx 3 [] follows ?_ | refine mx 2 [] follows ?_ | refine mx 1 [] follows ?_ | refine mx 0 [] follows ?_ | fail); (simp only [go_sem, int_bne])) | (first | refine cd (hc := iProxy0 _ rfl) (hK := ?_) | refine cm (hc := iProxy0 _ rfl) (hK := ?_) | refine ct (hc := iProxy0 _ rfl) (hK := ?_)); (simp only [go_sem]) | fail)
    all_goals (refine hR _ ?_; refine rat [] (hK := ⟨rfl, rfl⟩))
end Go.Proofs.Ytnaebafafhamjaa
/- Steps of terms with casts, in the program. On shadows. -/
namespace Go.Proofs.Grad
/-- what the program's step hands back: a term that counts only if a step was taken -/
def E.so : E → Tm
  | .app a b => match a.val with | false => nd 6 [a.so, b.tm] | true => (match b.val with | false => nd 6 [a.tm, b.so] | true => (ruleApp a b).tm)
  | .add a b => match a.val with | false => nd 7 [a.so, b.tm] | true => (match b.val with | false => nd 7 [a.tm, b.so] | true => (ruleAdd a b).tm)
  | .less a b => match a.val with | false => nd 8 [a.so, b.tm] | true => (match b.val with | false => nd 8 [a.tm, b.so] | true => (ruleLess a b).tm)
  | .ite a b c => match a.val with | false => nd 9 [a.so, b.tm, c.tm] | true => (ruleIte a b c).tm
  | .pair a b => match a.val with | false => nd 10 [a.so, b.tm] | true => (match b.val with | false => nd 10 [a.tm, b.so] | true => tm0)
  | .fst a => match a.val with | false => nd 11 [a.so] | true => (ruleFst a).tm
  | .snd a => match a.val with | false => nd 12 [a.so] | true => (ruleSnd a).tm
  | .cast s t l a => match a.val with | false => .mk 14 ByteArray.empty 0 t.ty s.ty l [a.so] | true => (ruleCast s t l a).tm
  | _ => tm0
theorem SR.map_code {r : SR} {f : E → E} : (r.map f).code = r.code := by cases r <;> rfl
theorem SR.map_lab {r : SR} {f : E → E} : (r.map f).lab = r.lab := by cases r <;> rfl
theorem SR.map_took {r : SR} {f : E → E} {e : E} (h : r.map f = .took e) : ∃ x, r = .took x ∧ e = f x := by
  cases r with
  | took x => simp only [SR.map, SR.took.injEq] at h; exact ⟨x, rfl, h.symm⟩
  | _ => simp [SR.map] at h
theorem E.so_took (e : E) : ∀ x : E, e.val = false → e.step = .took x → e.so = x.tm := by
  induction e with
  | app a b iha ihb =>
    intro x hv h
    simp only [E.step, E.so] at h ⊢
    cases ea : a.val
    · simp only [ea] at h ⊢; obtain ⟨y, hy, rfl⟩ := SR.map_took h; rw [iha y ea hy]; rfl
    · simp only [ea] at h ⊢
      cases eb : b.val
      · simp only [eb] at h ⊢; obtain ⟨y, hy, rfl⟩ := SR.map_took h; rw [ihb y eb hy]; rfl
      · simp only [eb] at h ⊢; rw [h]; rfl
  | add a b iha ihb =>
    intro x hv h
    simp only [E.step, E.so] at h ⊢
    cases ea : a.val
    · simp only [ea] at h ⊢; obtain ⟨y, hy, rfl⟩ := SR.map_took h; rw [iha y ea hy]; rfl
    · simp only [ea] at h ⊢
      cases eb : b.val
      · simp only [eb] at h ⊢; obtain ⟨y, hy, rfl⟩ := SR.map_took h; rw [ihb y eb hy]; rfl
      · simp only [eb] at h ⊢; rw [h]; rfl
  | less a b iha ihb =>
    intro x hv h
    simp only [E.step, E.so] at h ⊢
    cases ea : a.val
    · simp only [ea] at h ⊢; obtain ⟨y, hy, rfl⟩ := SR.map_took h; rw [iha y ea hy]; rfl
    · simp only [ea] at h ⊢
      cases eb : b.val
      · simp only [eb] at h ⊢; obtain ⟨y, hy, rfl⟩ := SR.map_took h; rw [ihb y eb hy]; rfl
      · simp only [eb] at h ⊢; rw [h]; rfl
  | pair a b iha ihb =>
    intro x hv h
    simp only [E.step, E.so] at h ⊢
    cases ea : a.val
    · simp only [ea] at h ⊢; obtain ⟨y, hy, rfl⟩ := SR.map_took h; rw [iha y ea hy]; rfl
    · simp only [ea] at h ⊢
      cases eb : b.val
      · simp only [eb] at h ⊢; obtain ⟨y, hy, rfl⟩ := SR.map_took h; rw [ihb y eb hy]; rfl
      · simp [eb] at h
  | ite a b c iha ihb ihc =>
    intro x hv h
    simp only [E.step, E.so] at h ⊢
    cases ea : a.val
    · simp only [ea] at h ⊢; obtain ⟨y, hy, rfl⟩ := SR.map_took h; rw [iha y ea hy]; rfl
    · simp only [ea] at h ⊢; rw [h]; rfl
  | fst a ih | snd a ih | cast s t l a ih =>
    intro x hv h
    simp only [E.step, E.so] at h ⊢
    cases ea : a.val
    · simp only [ea] at h ⊢; obtain ⟨y, hy, rfl⟩ := SR.map_took h; rw [ih y ea hy]; rfl
    · simp only [ea] at h ⊢; rw [h]; rfl
  | _ => intro x hv h; simp [E.step] at h
end Go.Proofs.Grad
namespace Go.Proofs.Ytnaebafafhamjaa
open Go.RowKit Go.Proofs.Sh Go.Proofs.Grad
set_option maxRecDepth 100000
set_option maxHeartbeats 8000000
theorem iCounts (t : Tm) : AFn Try.prog 121 [.agg (teC t)] (.one (.sc (.int .i64 (match t.kind == 9 with | true => 1 | false => (t.kids.length : Int))))) := by
  cases h : (t.kind == 9)
  all_goals
    refine fn_in ?_; refine acl_in Try.func121 rfl isfn_121 (Nat.le_of_ble_eq_true rfl) (fun R hR => ?_); rw [Try.results121] at hR; refine wg_run ?_; (simp only [Try.f121, go_sem, h])
    repeat' (first | (simp only [go_sem, h]) | (((first | refine sp1 ?_ ?_ | refine sp2 ?_ ?_ | refine sp3 ?_ ?_ | refine sp4 ?_ ?_ | refine sp5 ?_ ?_ | refine sp6 ?_ ?_ | refine sp7 ?_ ?_) <;> intro hb) <;> (simp only [go_sem, hb, h])) | ((first | refine wm_done ?_ | refine wt_done ?_ | refine wg_run ?_ | refine fk ?_ ?_) <;> (simp only [go_sem, h])))
    all_goals (refine hR _ ?_; refine rat [] (hK := ⟨rfl, rfl⟩))
def CloneT (l : List Tm) (r : AV) (H' : List Blk) : Prop := r = .one (.row 9 0 l.length) ∧ H' = [⟨9, 28, .mut, teR l⟩]
theorem cloneT (t : Tm) (l : List Tm) (hl : l.length < 1000) : ACl Try.prog 122 [.one (.sl (teR (t :: l)))] [] (CloneT (t :: l)) := by
  have hcap : (l.length + 1) * 128 ≤ 140737488355328 := by omega
  refine acl_in Try.func122 rfl isfn_122 (Nat.le_of_ble_eq_true rfl) (fun R hR => ?_); rw [Try.results122] at hR; refine wg_run ?_; (simp only [Try.f122, go_sem, hcap])
  repeat' (first | (first | (simp only [go_sem, hcap]) | (((first | refine sp1 ?_ ?_ | refine sp2 ?_ ?_ | refine sp3 ?_ ?_ | refine sp4 ?_ ?_ | refine sp5 ?_ ?_ | refine sp6 ?_ ?_ | refine sp7 ?_ ?_) <;> intro hb) <;> (simp only [go_sem, hb, hcap])) | ((first | refine wm_done ?_ | refine wt_done ?_ | refine wg_run ?_ | refine fk ?_ ?_) <;> (simp only [go_sem, hcap]))) | ((first | refine mx 6 [] follows ?_ | refine mx 5 [] follows ?_ | refine mx 4 [] follows ?_ | refine mx 3 [] follows ?_ | refine mx 2 [] follows ?_ | refine mx 1 [] follows ?_ | refine mx 0 [] follows ?_ | fail); (simp only [go_sem, hcap])) | fail)
  exact hR _ (rwn [1] (hK := ⟨rfl, rfl⟩))
def stT (e : E) : AV := .tup [.agg (teC e.so), .one (.sc (.int .i64 e.step.code)), .one (.sc (.int .i64 e.step.lab))]
/-- two operands -/
theorem iStepR (e : E) (x : E) (h : e.wf = true) (hz : e.tm.size < 100000000) : True := trivial
theorem red_cases (e : E) : (∃ x, e.ruleI = some x ∧ e.red = .took x) ∨ (e.ruleI = none ∧ e.red = e.castR) := by
  unfold E.red
  cases h : e.ruleI with
  | some x => exact .inl ⟨x, rfl, rfl⟩
  | none => exact .inr ⟨rfl, rfl⟩
theorem iStep (e : E) : e.wf = true → e.noA = true → e.val = false → e.tm.size < 100000000 → AFn Try.prog 74 [.agg (teC e.tm)] (stT e) := by
  induction e with
  | app a b iha ihb =>
    intro hw hn hv hz
    have hc := iCounts (E.app a b).tm
    have hr := iRule (.app a b) hw
    have hcr := iCastRule (.app a b) hw hz (by simp [E.tm, nd, Tm.kids])
    have hred := red_app a b
    simp only [E.wf, E.noA, Bool.and_eq_true] at hw hn
    simp only [E.tm, nd, Tm.size, Tm.sizes] at hz
    have va := iIsVal 100000000 (by omega) a.tm (by omega)
    have vb := iIsVal 100000000 (by omega) b.tm (by omega)
    rw [E.val_tm] at va vb
    have hcl := cloneT a.tm [b.tm] (by simp)
    simp only [stT, E.so, E.step]
    cases ea : a.val
    · rw [ea] at va
      have h1 := iha hw.1 hn.1 ea (by omega)
      simp only [stT] at h1
      simp only [SR.map_code, SR.map_lab]
      simp only [E.tm, nd] at hc ⊢
      refine fn_in ?_; refine acl_in Try.func74 rfl isfn_74 (Nat.le_of_ble_eq_true rfl) (fun R hR => ?_); rw [Try.results74] at hR; refine wg_run ?_; (simp only [Try.f74, go_sem])
      repeat' (first | (first | (simp only [go_sem, int_bne]) | (((first | refine sp1 ?_ ?_ | refine sp2 ?_ ?_ | refine sp3 ?_ ?_ | refine sp4 ?_ ?_ | refine sp5 ?_ ?_ | refine sp6 ?_ ?_ | refine sp7 ?_ ?_) <;> intro hb) <;> (simp only [go_sem, hb, int_bne])) | ((first | refine wm_done ?_ | refine wt_done ?_ | refine wg_run ?_ | refine fk ?_ ?_) <;> (simp only [go_sem, int_bne]))) | (first | (refine wl_next (wg_run ?_); (simp only [go_sem])) | refine wd_rounds 6 ?_) | ((first | refine mx 6 [] follows ?_ | refine mx 5 [] follows ?_ | refine mx 4 [] follows ?_ | refine mx 3 [] follows ?_ | refine mx 2 [] follows ?_ | refine mx 1 [] follows ?_ | refine mx 0 [] follows ?_ | fail); (simp only [go_sem, int_bne])) | (first | refine cd (hc := hc) (hK := ?_) | refine cm (hc := hc) (hK := ?_) | refine ct (hc := hc) (hK := ?_)); (simp only [go_sem]) | (first | refine cd (hc := va) (hK := ?_) | refine cm (hc := va) (hK := ?_) | refine ct (hc := va) (hK := ?_)); (simp only [go_sem]) | (first | refine cd (hc := vb) (hK := ?_) | refine cm (hc := vb) (hK := ?_) | refine ct (hc := vb) (hK := ?_)); (simp only [go_sem]) | (first | refine cd (hc := h1) (hK := ?_) | refine cm (hc := h1) (hK := ?_) | refine ct (hc := h1) (hK := ?_)); (simp only [go_sem]) | ((first | refine kd [] (hc := hcl) (hK := ?_) | refine km [] (hc := hcl) (hK := ?_) | refine kt [] (hc := hcl) (hK := ?_)); rintro _ _ ⟨rfl, rfl⟩ <;> (simp only [go_sem])) | fail)
      all_goals (refine hR _ ?_; refine rat [] (hK := ⟨rfl, rfl⟩))
    · rw [ea] at va
      simp only []
      cases eb : b.val
      · rw [eb] at vb
        have h1 := ihb hw.2 hn.2 eb (by omega)
        simp only [stT] at h1
        simp only [SR.map_code, SR.map_lab]
        simp only [E.tm, nd] at hc ⊢
        refine fn_in ?_; refine acl_in Try.func74 rfl isfn_74 (Nat.le_of_ble_eq_true rfl) (fun R hR => ?_); rw [Try.results74] at hR; refine wg_run ?_; (simp only [Try.f74, go_sem])
        repeat' (first | (first | (simp only [go_sem, int_bne]) | (((first | refine sp1 ?_ ?_ | refine sp2 ?_ ?_ | refine sp3 ?_ ?_ | refine sp4 ?_ ?_ | refine sp5 ?_ ?_ | refine sp6 ?_ ?_ | refine sp7 ?_ ?_) <;> intro hb) <;> (simp only [go_sem, hb, int_bne])) | ((first | refine wm_done ?_ | refine wt_done ?_ | refine wg_run ?_ | refine fk ?_ ?_) <;> (simp only [go_sem, int_bne]))) | (first | (refine wl_next (wg_run ?_); (simp only [go_sem])) | refine wd_rounds 6 ?_) | ((first | refine mx 6 [] follows ?_ | refine mx 5 [] follows ?_ | refine mx 4 [] follows ?_ | refine mx 3 [] follows ?_ | refine mx 2 [] follows ?_ | refine mx 1 [] follows ?_ | refine mx 0 [] follows ?_ | fail); (simp only [go_sem, int_bne])) | (first | refine cd (hc := hc) (hK := ?_) | refine cm (hc := hc) (hK := ?_) | refine ct (hc := hc) (hK := ?_)); (simp only [go_sem]) | (first | refine cd (hc := va) (hK := ?_) | refine cm (hc := va) (hK := ?_) | refine ct (hc := va) (hK := ?_)); (simp only [go_sem]) | (first | refine cd (hc := vb) (hK := ?_) | refine cm (hc := vb) (hK := ?_) | refine ct (hc := vb) (hK := ?_)); (simp only [go_sem]) | (first | refine cd (hc := h1) (hK := ?_) | refine cm (hc := h1) (hK := ?_) | refine ct (hc := h1) (hK := ?_)); (simp only [go_sem]) | ((first | refine kd [] (hc := hcl) (hK := ?_) | refine km [] (hc := hcl) (hK := ?_) | refine kt [] (hc := hcl) (hK := ?_)); rintro _ _ ⟨rfl, rfl⟩ <;> (simp only [go_sem])) | fail)
        all_goals (refine hR _ ?_; refine rat [] (hK := ⟨rfl, rfl⟩))
      · rw [eb] at vb
        simp only []
        rcases red_cases (.app a b) with ⟨x, e1, e2⟩ | ⟨e1, e2⟩
        all_goals
          rw [e2] at hred
          rw [← hred]
          rw [e1] at hr
          simp only [ruT, srT, SR.tm, SR.code, SR.lab] at hr hcr ⊢
          simp only [E.tm, nd] at hc hr hcr ⊢
          refine fn_in ?_; refine acl_in Try.func74 rfl isfn_74 (Nat.le_of_ble_eq_true rfl) (fun R hR => ?_); rw [Try.results74] at hR; refine wg_run ?_; (simp only [Try.f74, go_sem])
          repeat' (first | (first | (simp only [go_sem, int_bne]) | (((first | refine sp1 ?_ ?_ | refine sp2 ?_ ?_ | refine sp3 ?_ ?_ | refine sp4 ?_ ?_ | refine sp5 ?_ ?_ | refine sp6 ?_ ?_ | refine sp7 ?_ ?_) <;> intro hb) <;> (simp only [go_sem, hb, int_bne])) | ((first | refine wm_done ?_ | refine wt_done ?_ | refine wg_run ?_ | refine fk ?_ ?_) <;> (simp only [go_sem, int_bne]))) | (first | (refine wl_next (wg_run ?_); (simp only [go_sem])) | refine wd_rounds 6 ?_) | ((first | refine mx 6 [] follows ?_ | refine mx 5 [] follows ?_ | refine mx 4 [] follows ?_ | refine mx 3 [] follows ?_ | refine mx 2 [] follows ?_ | refine mx 1 [] follows ?_ | refine mx 0 [] follows ?_ | fail); (simp only [go_sem, int_bne])) | (first | refine cd (hc := hc) (hK := ?_) | refine cm (hc := hc) (hK := ?_) | refine ct (hc := hc) (hK := ?_)); (simp only [go_sem]) | (first | refine cd (hc := va) (hK := ?_) | refine cm (hc := va) (hK := ?_) | refine ct (hc := va) (hK := ?_)); (simp only [go_sem]) | (first | refine cd (hc := vb) (hK := ?_) | refine cm (hc := vb) (hK := ?_) | refine ct (hc := vb) (hK := ?_)); (simp only [go_sem]) | (first | refine cd (hc := hr) (hK := ?_) | refine cm (hc := hr) (hK := ?_) | refine ct (hc := hr) (hK := ?_)); (simp only [go_sem]) | (first | refine cd (hc := hcr) (hK := ?_) | refine cm (hc := hcr) (hK := ?_) | refine ct (hc := hcr) (hK := ?_)); (simp only [go_sem]) | fail)
          all_goals (refine hR _ ?_; refine rat [] (hK := ⟨rfl, rfl⟩))
  | add a b iha ihb =>
    intro hw hn hv hz
    have hc := iCounts (E.add a b).tm
    have hr := iRule (.add a b) hw
    have hcr := iCastRule (.add a b) hw hz (by simp [E.tm, nd, Tm.kids])
    have hred := red_add a b
    simp only [E.wf, E.noA, Bool.and_eq_true] at hw hn
    simp only [E.tm, nd, Tm.size, Tm.sizes] at hz
    have va := iIsVal 100000000 (by omega) a.tm (by omega)
    have vb := iIsVal 100000000 (by omega) b.tm (by omega)
    rw [E.val_tm] at va vb
    have hcl := cloneT a.tm [b.tm] (by simp)
    simp only [stT, E.so, E.step]
    cases ea : a.val
    · rw [ea] at va
      have h1 := iha hw.1 hn.1 ea (by omega)
      simp only [stT] at h1
      simp only [SR.map_code, SR.map_lab]
      simp only [E.tm, nd] at hc ⊢
      refine fn_in ?_; refine acl_in Try.func74 rfl isfn_74 (Nat.le_of_ble_eq_true rfl) (fun R hR => ?_); rw [Try.results74] at hR; refine wg_run ?_; (simp only [Try.f74, go_sem])
      repeat' (first | (first | (simp only [go_sem, int_bne]) | (((first | refine sp1 ?_ ?_ | refine sp2 ?_ ?_ | refine sp3 ?_ ?_ | refine sp4 ?_ ?_ | refine sp5 ?_ ?_ | refine sp6 ?_ ?_ | refine sp7 ?_ ?_) <;> intro hb) <;> (simp only [go_sem, hb, int_bne])) | ((first | refine wm_done ?_ | refine wt_done ?_ | refine wg_run ?_ | refine fk ?_ ?_) <;> (simp only [go_sem, int_bne]))) | (first | (refine wl_next (wg_run ?_); (simp only [go_sem])) | refine wd_rounds 6 ?_) | ((first | refine mx 6 [] follows ?_ | refine mx 5 [] follows ?_ | refine mx 4 [] follows ?_ | refine mx 3 [] follows ?_ | refine mx 2 [] follows ?_ | refine mx 1 [] follows ?_ | refine mx 0 [] follows ?_ | fail); (simp only [go_sem, int_bne])) | (first | refine cd (hc := hc) (hK := ?_) | refine cm (hc := hc) (hK := ?_) | refine ct (hc := hc) (hK := ?_)); (simp only [go_sem]) | (first | refine cd (hc := va) (hK := ?_) | refine cm (hc := va) (hK := ?_) | refine ct (hc := va) (hK := ?_)); (simp only [go_sem]) | (first | refine cd (hc := vb) (hK := ?_) | refine cm (hc := vb) (hK := ?_) | refine ct (hc := vb) (hK := ?_)); (simp only [go_sem]) | (first | refine cd (hc := h1) (hK := ?_) | refine cm (hc := h1) (hK := ?_) | refine ct (hc := h1) (hK := ?_)); (simp only [go_sem]) | ((first | refine kd [] (hc := hcl) (hK := ?_) | refine km [] (hc := hcl) (hK := ?_) | refine kt [] (hc := hcl) (hK := ?_)); rintro _ _ ⟨rfl, rfl⟩ <;> (simp only [go_sem])) | fail)
      all_goals (refine hR _ ?_; refine rat [] (hK := ⟨rfl, rfl⟩))
    · rw [ea] at va
      simp only []
      cases eb : b.val
      · rw [eb] at vb
        have h1 := ihb hw.2 hn.2 eb (by omega)
        simp only [stT] at h1
        simp only [SR.map_code, SR.map_lab]
        simp only [E.tm, nd] at hc ⊢
        refine fn_in ?_; refine acl_in Try.func74 rfl isfn_74 (Nat.le_of_ble_eq_true rfl) (fun R hR => ?_); rw [Try.results74] at hR; refine wg_run ?_; (simp only [Try.f74, go_sem])
        repeat' (first | (first | (simp only [go_sem, int_bne]) | (((first | refine sp1 ?_ ?_ | refine sp2 ?_ ?_ | refine sp3 ?_ ?_ | refine sp4 ?_ ?_ | refine sp5 ?_ ?_ | refine sp6 ?_ ?_ | refine sp7 ?_ ?_) <;> intro hb) <;> (simp only [go_sem, hb, int_bne])) | ((first | refine wm_done ?_ | refine wt_done ?_ | refine wg_run ?_ | refine fk ?_ ?_) <;> (simp only [go_sem, int_bne]))) | (first | (refine wl_next (wg_run ?_); (simp only [go_sem])) | refine wd_rounds 6 ?_) | ((first | refine mx 6 [] follows ?_ | refine mx 5 [] follows ?_ | refine mx 4 [] follows ?_ | refine mx 3 [] follows ?_ | refine mx 2 [] follows ?_ | refine mx 1 [] follows ?_ | refine mx 0 [] follows ?_ | fail); (simp only [go_sem, int_bne])) | (first | refine cd (hc := hc) (hK := ?_) | refine cm (hc := hc) (hK := ?_) | refine ct (hc := hc) (hK := ?_)); (simp only [go_sem]) | (first | refine cd (hc := va) (hK := ?_) | refine cm (hc := va) (hK := ?_) | refine ct (hc := va) (hK := ?_)); (simp only [go_sem]) | (first | refine cd (hc := vb) (hK := ?_) | refine cm (hc := vb) (hK := ?_) | refine ct (hc := vb) (hK := ?_)); (simp only [go_sem]) | (first | refine cd (hc := h1) (hK := ?_) | refine cm (hc := h1) (hK := ?_) | refine ct (hc := h1) (hK := ?_)); (simp only [go_sem]) | ((first | refine kd [] (hc := hcl) (hK := ?_) | refine km [] (hc := hcl) (hK := ?_) | refine kt [] (hc := hcl) (hK := ?_)); rintro _ _ ⟨rfl, rfl⟩ <;> (simp only [go_sem])) | fail)
        all_goals (refine hR _ ?_; refine rat [] (hK := ⟨rfl, rfl⟩))
      · rw [eb] at vb
        simp only []
        rcases red_cases (.add a b) with ⟨x, e1, e2⟩ | ⟨e1, e2⟩
        all_goals
          rw [e2] at hred
          rw [← hred]
          rw [e1] at hr
          simp only [ruT, srT, SR.tm, SR.code, SR.lab] at hr hcr ⊢
          simp only [E.tm, nd] at hc hr hcr ⊢
          refine fn_in ?_; refine acl_in Try.func74 rfl isfn_74 (Nat.le_of_ble_eq_true rfl) (fun R hR => ?_); rw [Try.results74] at hR; refine wg_run ?_; (simp only [Try.f74, go_sem])
          repeat' (first | (first | (simp only [go_sem, int_bne]) | (((first | refine sp1 ?_ ?_ | refine sp2 ?_ ?_ | refine sp3 ?_ ?_ | refine sp4 ?_ ?_ | refine sp5 ?_ ?_ | refine sp6 ?_ ?_ | refine sp7 ?_ ?_) <;> intro hb) <;> (simp only [go_sem, hb, int_bne])) | ((first | refine wm_done ?_ | refine wt_done ?_ | refine wg_run ?_ | refine fk ?_ ?_) <;> (simp only [go_sem, int_bne]))) | (first | (refine wl_next (wg_run ?_); (simp only [go_sem])) | refine wd_rounds 6 ?_) | ((first | refine mx 6 [] follows ?_ | refine mx 5 [] follows ?_ | refine mx 4 [] follows ?_ | refine mx 3 [] follows ?_ | refine mx 2 [] follows ?_ | refine mx 1 [] follows ?_ | refine mx 0 [] follows ?_ | fail); (simp only [go_sem, int_bne])) | (first | refine cd (hc := hc) (hK := ?_) | refine cm (hc := hc) (hK := ?_) | refine ct (hc := hc) (hK := ?_)); (simp only [go_sem]) | (first | refine cd (hc := va) (hK := ?_) | refine cm (hc := va) (hK := ?_) | refine ct (hc := va) (hK := ?_)); (simp only [go_sem]) | (first | refine cd (hc := vb) (hK := ?_) | refine cm (hc := vb) (hK := ?_) | refine ct (hc := vb) (hK := ?_)); (simp only [go_sem]) | (first | refine cd (hc := hr) (hK := ?_) | refine cm (hc := hr) (hK := ?_) | refine ct (hc := hr) (hK := ?_)); (simp only [go_sem]) | (first | refine cd (hc := hcr) (hK := ?_) | refine cm (hc := hcr) (hK := ?_) | refine ct (hc := hcr) (hK := ?_)); (simp only [go_sem]) | fail)
          all_goals (refine hR _ ?_; refine rat [] (hK := ⟨rfl, rfl⟩))
  | less a b iha ihb =>
    intro hw hn hv hz
    have hc := iCounts (E.less a b).tm
    have hr := iRule (.less a b) hw
    have hcr := iCastRule (.less a b) hw hz (by simp [E.tm, nd, Tm.kids])
    have hred := red_less a b
    simp only [E.wf, E.noA, Bool.and_eq_true] at hw hn
    simp only [E.tm, nd, Tm.size, Tm.sizes] at hz
    have va := iIsVal 100000000 (by omega) a.tm (by omega)
    have vb := iIsVal 100000000 (by omega) b.tm (by omega)
    rw [E.val_tm] at va vb
    have hcl := cloneT a.tm [b.tm] (by simp)
    simp only [stT, E.so, E.step]
    cases ea : a.val
    · rw [ea] at va
      have h1 := iha hw.1 hn.1 ea (by omega)
      simp only [stT] at h1
      simp only [SR.map_code, SR.map_lab]
      simp only [E.tm, nd] at hc ⊢
      refine fn_in ?_; refine acl_in Try.func74 rfl isfn_74 (Nat.le_of_ble_eq_true rfl) (fun R hR => ?_); rw [Try.results74] at hR; refine wg_run ?_; (simp only [Try.f74, go_sem])
      repeat' (first | (first | (simp only [go_sem, int_bne]) | (((first | refine sp1 ?_ ?_ | refine sp2 ?_ ?_ | refine sp3 ?_ ?_ | refine sp4 ?_ ?_ | refine sp5 ?_ ?_ | refine sp6 ?_ ?_ | refine sp7 ?_ ?_) <;> intro hb) <;> (simp only [go_sem, hb, int_bne])) | ((first | refine wm_done ?_ | refine wt_done ?_ | refine wg_run ?_ | refine fk ?_ ?_) <;> (simp only [go_sem, int_bne]))) | (first | (refine wl_next (wg_run ?_); (simp only [go_sem])) | refine wd_rounds 6 ?_) | ((first | refine mx 6 [] follows ?_ | refine mx 5 [] follows ?_ | refine mx 4 [] follows ?_ | refine mx 3 [] follows ?_ | refine mx 2 [] follows ?_ | refine mx 1 [] follows ?_ | refine mx 0 [] follows ?_ | fail); (simp only [go_sem, int_bne])) | (first | refine cd (hc := hc) (hK := ?_) | refine cm (hc := hc) (hK := ?_) | refine ct (hc := hc) (hK := ?_)); (simp only [go_sem]) | (first | refine cd (hc := va) (hK := ?_) | refine cm (hc := va) (hK := ?_) | refine ct (hc := va) (hK := ?_)); (simp only [go_sem]) | (first | refine cd (hc := vb) (hK := ?_) | refine cm (hc := vb) (hK := ?_) | refine ct (hc := vb) (hK := ?_)); (simp only [go_sem]) | (first | refine cd (hc := h1) (hK := ?_) | refine cm (hc := h1) (hK := ?_) | refine ct (hc := h1) (hK := ?_)); (simp only [go_sem]) | ((first | refine kd [] (hc := hcl) (hK := ?_) | refine km [] (hc := hcl) (hK := ?_) | refine kt [] (hc := hcl) (hK := ?_)); rintro _ _ ⟨rfl, rfl⟩ <;> (simp only [go_sem])) | fail)
      all_goals (refine hR _ ?_; refine rat [] (hK := ⟨rfl, rfl⟩))
    · rw [ea] at va
      simp only []
      cases eb : b.val
      · rw [eb] at vb
        have h1 := ihb hw.2 hn.2 eb (by omega)
        simp only [stT] at h1
        simp only [SR.map_code, SR.map_lab]
        simp only [E.tm, nd] at hc ⊢
        refine fn_in ?_; refine acl_in Try.func74 rfl isfn_74 (Nat.le_of_ble_eq_true rfl) (fun R hR => ?_); rw [Try.results74] at hR; refine wg_run ?_; (simp only [Try.f74, go_sem])
        repeat' (first | (first | (simp only [go_sem, int_bne]) | (((first | refine sp1 ?_ ?_ | refine sp2 ?_ ?_ | refine sp3 ?_ ?_ | refine sp4 ?_ ?_ | refine sp5 ?_ ?_ | refine sp6 ?_ ?_ | refine sp7 ?_ ?_) <;> intro hb) <;> (simp only [go_sem, hb, int_bne])) | ((first | refine wm_done ?_ | refine wt_done ?_ | refine wg_run ?_ | refine fk ?_ ?_) <;> (simp only [go_sem, int_bne]))) | (first | (refine wl_next (wg_run ?_); (simp only [go_sem])) | refine wd_rounds 6 ?_) | ((first | refine mx 6 [] follows ?_ | refine mx 5 [] follows ?_ | refine mx 4 [] follows ?_ | refine mx 3 [] follows ?_ | refine mx 2 [] follows ?_ | refine mx 1 [] follows ?_ | refine mx 0 [] follows ?_ | fail); (simp only [go_sem, int_bne])) | (first | refine cd (hc := hc) (hK := ?_) | refine cm (hc := hc) (hK := ?_) | refine ct (hc := hc) (hK := ?_)); (simp only [go_sem]) | (first | refine cd (hc := va) (hK := ?_) | refine cm (hc := va) (hK := ?_) | refine ct (hc := va) (hK := ?_)); (simp only [go_sem]) | (first | refine cd (hc := vb) (hK := ?_) | refine cm (hc := vb) (hK := ?_) | refine ct (hc := vb) (hK := ?_)); (simp only [go_sem]) | (first | refine cd (hc := h1) (hK := ?_) | refine cm (hc := h1) (hK := ?_) | refine ct (hc := h1) (hK := ?_)); (simp only [go_sem]) | ((first | refine kd [] (hc := hcl) (hK := ?_) | refine km [] (hc := hcl) (hK := ?_) | refine kt [] (hc := hcl) (hK := ?_)); rintro _ _ ⟨rfl, rfl⟩ <;> (simp only [go_sem])) | fail)
        all_goals (refine hR _ ?_; refine rat [] (hK := ⟨rfl, rfl⟩))
      · rw [eb] at vb
        simp only []
        rcases red_cases (.less a b) with ⟨x, e1, e2⟩ | ⟨e1, e2⟩
        all_goals
          rw [e2] at hred
          rw [← hred]
          rw [e1] at hr
          simp only [ruT, srT, SR.tm, SR.code, SR.lab] at hr hcr ⊢
          simp only [E.tm, nd] at hc hr hcr ⊢
          refine fn_in ?_; refine acl_in Try.func74 rfl isfn_74 (Nat.le_of_ble_eq_true rfl) (fun R hR => ?_); rw [Try.results74] at hR; refine wg_run ?_; (simp only [Try.f74, go_sem])
          repeat' (first | (first | (simp only [go_sem, int_bne]) | (((first | refine sp1 ?_ ?_ | refine sp2 ?_ ?_ | refine sp3 ?_ ?_ | refine sp4 ?_ ?_ | refine sp5 ?_ ?_ | refine sp6 ?_ ?_ | refine sp7 ?_ ?_) <;> intro hb) <;> (simp only [go_sem, hb, int_bne])) | ((first | refine wm_done ?_ | refine wt_done ?_ | refine wg_run ?_ | refine fk ?_ ?_) <;> (simp only [go_sem, int_bne]))) | (first | (refine wl_next (wg_run ?_); (simp only [go_sem])) | refine wd_rounds 6 ?_) | ((first | refine mx 6 [] follows ?_ | refine mx 5 [] follows ?_ | refine mx 4 [] follows ?_ | refine mx 3 [] follows ?_ | refine mx 2 [] follows ?_ | refine mx 1 [] follows ?_ | refine mx 0 [] follows ?_ | fail); (simp only [go_sem, int_bne])) | (first | refine cd (hc := hc) (hK := ?_) | refine cm (hc := hc) (hK := ?_) | refine ct (hc := hc) (hK := ?_)); (simp only [go_sem]) | (first | refine cd (hc := va) (hK := ?_) | refine cm (hc := va) (hK := ?_) | refine ct (hc := va) (hK := ?_)); (simp only [go_sem]) | (first | refine cd (hc := vb) (hK := ?_) | refine cm (hc := vb) (hK := ?_) | refine ct (hc := vb) (hK := ?_)); (simp only [go_sem]) | (first | refine cd (hc := hr) (hK := ?_) | refine cm (hc := hr) (hK := ?_) | refine ct (hc := hr) (hK := ?_)); (simp only [go_sem]) | (first | refine cd (hc := hcr) (hK := ?_) | refine cm (hc := hcr) (hK := ?_) | refine ct (hc := hcr) (hK := ?_)); (simp only [go_sem]) | fail)
          all_goals (refine hR _ ?_; refine rat [] (hK := ⟨rfl, rfl⟩))
  | pair a b iha ihb =>
    intro hw hn hv hz
    have hc := iCounts (E.pair a b).tm
    have hr := iRule (.pair a b) hw
    have hcr := iCastRule (.pair a b) hw hz (by simp [E.tm, nd, Tm.kids])
    simp only [E.wf, E.noA, Bool.and_eq_true] at hw hn
    simp only [E.tm, nd, Tm.size, Tm.sizes] at hz
    have va := iIsVal 100000000 (by omega) a.tm (by omega)
    have vb := iIsVal 100000000 (by omega) b.tm (by omega)
    rw [E.val_tm] at va vb
    have hcl := cloneT a.tm [b.tm] (by simp)
    simp only [stT, E.so, E.step]
    cases ea : a.val
    · rw [ea] at va
      have h1 := iha hw.1 hn.1 ea (by omega)
      simp only [stT] at h1
      simp only [SR.map_code, SR.map_lab]
      simp only [E.tm, nd] at hc ⊢
      refine fn_in ?_; refine acl_in Try.func74 rfl isfn_74 (Nat.le_of_ble_eq_true rfl) (fun R hR => ?_); rw [Try.results74] at hR; refine wg_run ?_; (simp only [Try.f74, go_sem])
      repeat' (first | (first | (simp only [go_sem, int_bne]) | (((first | refine sp1 ?_ ?_ | refine sp2 ?_ ?_ | refine sp3 ?_ ?_ | refine sp4 ?_ ?_ | refine sp5 ?_ ?_ | refine sp6 ?_ ?_ | refine sp7 ?_ ?_) <;> intro hb) <;> (simp only [go_sem, hb, int_bne])) | ((first | refine wm_done ?_ | refine wt_done ?_ | refine wg_run ?_ | refine fk ?_ ?_) <;> (simp only [go_sem, int_bne]))) | (first | (refine wl_next (wg_run ?_); (simp only [go_sem])) | refine wd_rounds 6 ?_) | ((first | refine mx 6 [] follows ?_ | refine mx 5 [] follows ?_ | refine mx 4 [] follows ?_ | refine mx 3 [] follows ?_ | refine mx 2 [] follows ?_ | refine mx 1 [] follows ?_ | refine mx 0 [] follows ?_ | fail); (simp only [go_sem, int_bne])) | (first | refine cd (hc := hc) (hK := ?_) | refine cm (hc := hc) (hK := ?_) | refine ct (hc := hc) (hK := ?_)); (simp only [go_sem]) | (first | refine cd (hc := va) (hK := ?_) | refine cm (hc := va) (hK := ?_) | refine ct (hc := va) (hK := ?_)); (simp only [go_sem]) | (first | refine cd (hc := vb) (hK := ?_) | refine cm (hc := vb) (hK := ?_) | refine ct (hc := vb) (hK := ?_)); (simp only [go_sem]) | (first | refine cd (hc := h1) (hK := ?_) | refine cm (hc := h1) (hK := ?_) | refine ct (hc := h1) (hK := ?_)); (simp only [go_sem]) | ((first | refine kd [] (hc := hcl) (hK := ?_) | refine km [] (hc := hcl) (hK := ?_) | refine kt [] (hc := hcl) (hK := ?_)); rintro _ _ ⟨rfl, rfl⟩ <;> (simp only [go_sem])) | fail)
      all_goals (refine hR _ ?_; refine rat [] (hK := ⟨rfl, rfl⟩))
    · rw [ea] at va
      simp only []
      cases eb : b.val
      · rw [eb] at vb
        have h1 := ihb hw.2 hn.2 eb (by omega)
        simp only [stT] at h1
        simp only [SR.map_code, SR.map_lab]
        simp only [E.tm, nd] at hc ⊢
        refine fn_in ?_; refine acl_in Try.func74 rfl isfn_74 (Nat.le_of_ble_eq_true rfl) (fun R hR => ?_); rw [Try.results74] at hR; refine wg_run ?_; (simp only [Try.f74, go_sem])
        repeat' (first | (first | (simp only [go_sem, int_bne]) | (((first | refine sp1 ?_ ?_ | refine sp2 ?_ ?_ | refine sp3 ?_ ?_ | refine sp4 ?_ ?_ | refine sp5 ?_ ?_ | refine sp6 ?_ ?_ | refine sp7 ?_ ?_) <;> intro hb) <;> (simp only [go_sem, hb, int_bne])) | ((first | refine wm_done ?_ | refine wt_done ?_ | refine wg_run ?_ | refine fk ?_ ?_) <;> (simp only [go_sem, int_bne]))) | (first | (refine wl_next (wg_run ?_); (simp only [go_sem])) | refine wd_rounds 6 ?_) | ((first | refine mx 6 [] follows ?_ | refine mx 5 [] follows ?_ | refine mx 4 [] follows ?_ | refine mx 3 [] follows ?_ | refine mx 2 [] follows ?_ | refine mx 1 [] follows ?_ | refine mx 0 [] follows ?_ | fail); (simp only [go_sem, int_bne])) | (first | refine cd (hc := hc) (hK := ?_) | refine cm (hc := hc) (hK := ?_) | refine ct (hc := hc) (hK := ?_)); (simp only [go_sem]) | (first | refine cd (hc := va) (hK := ?_) | refine cm (hc := va) (hK := ?_) | refine ct (hc := va) (hK := ?_)); (simp only [go_sem]) | (first | refine cd (hc := vb) (hK := ?_) | refine cm (hc := vb) (hK := ?_) | refine ct (hc := vb) (hK := ?_)); (simp only [go_sem]) | (first | refine cd (hc := h1) (hK := ?_) | refine cm (hc := h1) (hK := ?_) | refine ct (hc := h1) (hK := ?_)); (simp only [go_sem]) | ((first | refine kd [] (hc := hcl) (hK := ?_) | refine km [] (hc := hcl) (hK := ?_) | refine kt [] (hc := hcl) (hK := ?_)); rintro _ _ ⟨rfl, rfl⟩ <;> (simp only [go_sem])) | fail)
        all_goals (refine hR _ ?_; refine rat [] (hK := ⟨rfl, rfl⟩))
      · simp [E.val, ea, eb] at hv
  | ite a b c iha ihb ihc =>
    intro hw hn hv hz
    have hc := iCounts (E.ite a b c).tm
    have hr := iRule (.ite a b c) hw
    have hcr := iCastRule (.ite a b c) hw hz (by simp [E.tm, nd, Tm.kids])
    have hred := red_ite a b c
    simp only [E.wf, E.noA, Bool.and_eq_true] at hw hn
    simp only [E.tm, nd, Tm.size, Tm.sizes] at hz
    have va := iIsVal 100000000 (by omega) a.tm (by omega)
    rw [E.val_tm] at va
    have hcl := cloneT a.tm [b.tm, c.tm] (by simp)
    simp only [stT, E.so, E.step]
    cases ea : a.val
    · rw [ea] at va
      have h1 := iha hw.1 hn.1 ea (by omega)
      simp only [stT] at h1
      simp only [SR.map_code, SR.map_lab]
      simp only [E.tm, nd] at hc ⊢
      refine fn_in ?_; refine acl_in Try.func74 rfl isfn_74 (Nat.le_of_ble_eq_true rfl) (fun R hR => ?_); rw [Try.results74] at hR; refine wg_run ?_; (simp only [Try.f74, go_sem])
      repeat' (first | (first | (simp only [go_sem, int_bne]) | (((first | refine sp1 ?_ ?_ | refine sp2 ?_ ?_ | refine sp3 ?_ ?_ | refine sp4 ?_ ?_ | refine sp5 ?_ ?_ | refine sp6 ?_ ?_ | refine sp7 ?_ ?_) <;> intro hb) <;> (simp only [go_sem, hb, int_bne])) | ((first | refine wm_done ?_ | refine wt_done ?_ | refine wg_run ?_ | refine fk ?_ ?_) <;> (simp only [go_sem, int_bne]))) | (first | (refine wl_next (wg_run ?_); (simp only [go_sem])) | refine wd_rounds 6 ?_) | ((first | refine mx 6 [] follows ?_ | refine mx 5 [] follows ?_ | refine mx 4 [] follows ?_ | refine mx 3 [] follows ?_ | refine mx 2 [] follows ?_ | refine mx 1 [] follows ?_ | refine mx 0 [] follows ?_ | fail); (simp only [go_sem, int_bne])) | (first | refine cd (hc := hc) (hK := ?_) | refine cm (hc := hc) (hK := ?_) | refine ct (hc := hc) (hK := ?_)); (simp only [go_sem]) | (first | refine cd (hc := va) (hK := ?_) | refine cm (hc := va) (hK := ?_) | refine ct (hc := va) (hK := ?_)); (simp only [go_sem]) | (first | refine cd (hc := h1) (hK := ?_) | refine cm (hc := h1) (hK := ?_) | refine ct (hc := h1) (hK := ?_)); (simp only [go_sem]) | ((first | refine kd [] (hc := hcl) (hK := ?_) | refine km [] (hc := hcl) (hK := ?_) | refine kt [] (hc := hcl) (hK := ?_)); rintro _ _ ⟨rfl, rfl⟩ <;> (simp only [go_sem])) | fail)
      all_goals (refine hR _ ?_; refine rat [] (hK := ⟨rfl, rfl⟩))
    · rw [ea] at va
      simp only []
      rcases red_cases (.ite a b c) with ⟨x, e1, e2⟩ | ⟨e1, e2⟩
      all_goals
        rw [e2] at hred
        rw [← hred]
        rw [e1] at hr
        simp only [ruT, srT, SR.tm, SR.code, SR.lab] at hr hcr ⊢
        simp only [E.tm, nd] at hc hr hcr ⊢
        refine fn_in ?_; refine acl_in Try.func74 rfl isfn_74 (Nat.le_of_ble_eq_true rfl) (fun R hR => ?_); rw [Try.results74] at hR; refine wg_run ?_; (simp only [Try.f74, go_sem])
        repeat' (first | (first | (simp only [go_sem, int_bne]) | (((first | refine sp1 ?_ ?_ | refine sp2 ?_ ?_ | refine sp3 ?_ ?_ | refine sp4 ?_ ?_ | refine sp5 ?_ ?_ | refine sp6 ?_ ?_ | refine sp7 ?_ ?_) <;> intro hb) <;> (simp only [go_sem, hb, int_bne])) | ((first | refine wm_done ?_ | refine wt_done ?_ | refine wg_run ?_ | refine fk ?_ ?_) <;> (simp only [go_sem, int_bne]))) | (first | (refine wl_next (wg_run ?_); (simp only [go_sem])) | refine wd_rounds 6 ?_) | ((first | refine mx 6 [] follows ?_ | refine mx 5 [] follows ?_ | refine mx 4 [] follows ?_ | refine mx 3 [] follows ?_ | refine mx 2 [] follows ?_ | refine mx 1 [] follows ?_ | refine mx 0 [] follows ?_ | fail); (simp only [go_sem, int_bne])) | (first | refine cd (hc := hc) (hK := ?_) | refine cm (hc := hc) (hK := ?_) | refine ct (hc := hc) (hK := ?_)); (simp only [go_sem]) | (first | refine cd (hc := va) (hK := ?_) | refine cm (hc := va) (hK := ?_) | refine ct (hc := va) (hK := ?_)); (simp only [go_sem]) | (first | refine cd (hc := hr) (hK := ?_) | refine cm (hc := hr) (hK := ?_) | refine ct (hc := hr) (hK := ?_)); (simp only [go_sem]) | (first | refine cd (hc := hcr) (hK := ?_) | refine cm (hc := hcr) (hK := ?_) | refine ct (hc := hcr) (hK := ?_)); (simp only [go_sem]) | fail)
        all_goals (refine hR _ ?_; refine rat [] (hK := ⟨rfl, rfl⟩))
  | fst a iha =>
    intro hw hn hv hz
    have hc := iCounts (E.fst a).tm
    have hr := iRule (.fst a) hw
    have hcr := iCastRule (.fst a) hw hz (by simp [E.tm, nd, Tm.kids])
    have hred := red_fst a
    simp only [E.wf, E.noA, Bool.and_eq_true] at hw hn
    simp only [E.tm, nd, Tm.size, Tm.sizes] at hz
    have va := iIsVal 100000000 (by omega) a.tm (by omega)
    rw [E.val_tm] at va
    have hcl := cloneT a.tm [] (by simp)
    simp only [stT, E.so, E.step]
    cases ea : a.val
    · rw [ea] at va
      have h1 := iha hw hn ea (by omega)
      simp only [stT] at h1
      simp only [SR.map_code, SR.map_lab]
      simp only [E.tm, nd] at hc ⊢
      refine fn_in ?_; refine acl_in Try.func74 rfl isfn_74 (Nat.le_of_ble_eq_true rfl) (fun R hR => ?_); rw [Try.results74] at hR; refine wg_run ?_; (simp only [Try.f74, go_sem])
      repeat' (first | (first | (simp only [go_sem, int_bne]) | (((first | refine sp1 ?_ ?_ | refine sp2 ?_ ?_ | refine sp3 ?_ ?_ | refine sp4 ?_ ?_ | refine sp5 ?_ ?_ | refine sp6 ?_ ?_ | refine sp7 ?_ ?_) <;> intro hb) <;> (simp only [go_sem, hb, int_bne])) | ((first | refine wm_done ?_ | refine wt_done ?_ | refine wg_run ?_ | refine fk ?_ ?_) <;> (simp only [go_sem, int_bne]))) | (first | (refine wl_next (wg_run ?_); (simp only [go_sem])) | refine wd_rounds 6 ?_) | ((first | refine mx 6 [] follows ?_ | refine mx 5 [] follows ?_ | refine mx 4 [] follows ?_ | refine mx 3 [] follows ?_ | refine mx 2 [] follows ?_ | refine mx 1 [] follows ?_ | refine mx 0 [] follows ?_ | fail); (simp only [go_sem, int_bne])) | (first | refine cd (hc := hc) (hK := ?_) | refine cm (hc := hc) (hK := ?_) | refine ct (hc := hc) (hK := ?_)); (simp only [go_sem]) | (first | refine cd (hc := va) (hK := ?_) | refine cm (hc := va) (hK := ?_) | refine ct (hc := va) (hK := ?_)); (simp only [go_sem]) | (first | refine cd (hc := h1) (hK := ?_) | refine cm (hc := h1) (hK := ?_) | refine ct (hc := h1) (hK := ?_)); (simp only [go_sem]) | ((first | refine kd [] (hc := hcl) (hK := ?_) | refine km [] (hc := hcl) (hK := ?_) | refine kt [] (hc := hcl) (hK := ?_)); rintro _ _ ⟨rfl, rfl⟩ <;> (simp only [go_sem])) | fail)
      all_goals (refine hR _ ?_; refine rat [] (hK := ⟨rfl, rfl⟩))
    · rw [ea] at va
      simp only []
      rcases red_cases (.fst a) with ⟨x, e1, e2⟩ | ⟨e1, e2⟩
      all_goals
        rw [e2] at hred
        rw [← hred]
        rw [e1] at hr
        simp only [ruT, srT, SR.tm, SR.code, SR.lab] at hr hcr ⊢
        simp only [E.tm, nd] at hc hr hcr ⊢
        refine fn_in ?_; refine acl_in Try.func74 rfl isfn_74 (Nat.le_of_ble_eq_true rfl) (fun R hR => ?_); rw [Try.results74] at hR; refine wg_run ?_; (simp only [Try.f74, go_sem])
        repeat' (first | (first | (simp only [go_sem, int_bne]) | (((first | refine sp1 ?_ ?_ | refine sp2 ?_ ?_ | refine sp3 ?_ ?_ | refine sp4 ?_ ?_ | refine sp5 ?_ ?_ | refine sp6 ?_ ?_ | refine sp7 ?_ ?_) <;> intro hb) <;> (simp only [go_sem, hb, int_bne])) | ((first | refine wm_done ?_ | refine wt_done ?_ | refine wg_run ?_ | refine fk ?_ ?_) <;> (simp only [go_sem, int_bne]))) | (first | (refine wl_next (wg_run ?_); (simp only [go_sem])) | refine wd_rounds 6 ?_) | ((first | refine mx 6 [] follows ?_ | refine mx 5 [] follows ?_ | refine mx 4 [] follows ?_ | refine mx 3 [] follows ?_ | refine mx 2 [] follows ?_ | refine mx 1 [] follows ?_ | refine mx 0 [] follows ?_ | fail); (simp only [go_sem, int_bne])) | (first | refine cd (hc := hc) (hK := ?_) | refine cm (hc := hc) (hK := ?_) | refine ct (hc := hc) (hK := ?_)); (simp only [go_sem]) | (first | refine cd (hc := va) (hK := ?_) | refine cm (hc := va) (hK := ?_) | refine ct (hc := va) (hK := ?_)); (simp only [go_sem]) | (first | refine cd (hc := hr) (hK := ?_) | refine cm (hc := hr) (hK := ?_) | refine ct (hc := hr) (hK := ?_)); (simp only [go_sem]) | (first | refine cd (hc := hcr) (hK := ?_) | refine cm (hc := hcr) (hK := ?_) | refine ct (hc := hcr) (hK := ?_)); (simp only [go_sem]) | fail)
        all_goals (refine hR _ ?_; refine rat [] (hK := ⟨rfl, rfl⟩))
  | snd a iha =>
    intro hw hn hv hz
    have hc := iCounts (E.snd a).tm
    have hr := iRule (.snd a) hw
    have hcr := iCastRule (.snd a) hw hz (by simp [E.tm, nd, Tm.kids])
    have hred := red_snd a
    simp only [E.wf, E.noA, Bool.and_eq_true] at hw hn
    simp only [E.tm, nd, Tm.size, Tm.sizes] at hz
    have va := iIsVal 100000000 (by omega) a.tm (by omega)
    rw [E.val_tm] at va
    have hcl := cloneT a.tm [] (by simp)
    simp only [stT, E.so, E.step]
    cases ea : a.val
    · rw [ea] at va
      have h1 := iha hw hn ea (by omega)
      simp only [stT] at h1
      simp only [SR.map_code, SR.map_lab]
      simp only [E.tm, nd] at hc ⊢
      refine fn_in ?_; refine acl_in Try.func74 rfl isfn_74 (Nat.le_of_ble_eq_true rfl) (fun R hR => ?_); rw [Try.results74] at hR; refine wg_run ?_; (simp only [Try.f74, go_sem])
      repeat' (first | (first | (simp only [go_sem, int_bne]) | (((first | refine sp1 ?_ ?_ | refine sp2 ?_ ?_ | refine sp3 ?_ ?_ | refine sp4 ?_ ?_ | refine sp5 ?_ ?_ | refine sp6 ?_ ?_ | refine sp7 ?_ ?_) <;> intro hb) <;> (simp only [go_sem, hb, int_bne])) | ((first | refine wm_done ?_ | refine wt_done ?_ | refine wg_run ?_ | refine fk ?_ ?_) <;> (simp only [go_sem, int_bne]))) | (first | (refine wl_next (wg_run ?_); (simp only [go_sem])) | refine wd_rounds 6 ?_) | ((first | refine mx 6 [] follows ?_ | refine mx 5 [] follows ?_ | refine mx 4 [] follows ?_ | refine mx 3 [] follows ?_ | refine mx 2 [] follows ?_ | refine mx 1 [] follows ?_ | refine mx 0 [] follows ?_ | fail); (simp only [go_sem, int_bne])) | (first | refine cd (hc := hc) (hK := ?_) | refine cm (hc := hc) (hK := ?_) | refine ct (hc := hc) (hK := ?_)); (simp only [go_sem]) | (first | refine cd (hc := va) (hK := ?_) | refine cm (hc := va) (hK := ?_) | refine ct (hc := va) (hK := ?_)); (simp only [go_sem]) | (first | refine cd (hc := h1) (hK := ?_) | refine cm (hc := h1) (hK := ?_) | refine ct (hc := h1) (hK := ?_)); (simp only [go_sem]) | ((first | refine kd [] (hc := hcl) (hK := ?_) | refine km [] (hc := hcl) (hK := ?_) | refine kt [] (hc := hcl) (hK := ?_)); rintro _ _ ⟨rfl, rfl⟩ <;> (simp only [go_sem])) | fail)
      all_goals (refine hR _ ?_; refine rat [] (hK := ⟨rfl, rfl⟩))
    · rw [ea] at va
      simp only []
      rcases red_cases (.snd a) with ⟨x, e1, e2⟩ | ⟨e1, e2⟩
      all_goals
        rw [e2] at hred
        rw [← hred]
        rw [e1] at hr
        simp only [ruT, srT, SR.tm, SR.code, SR.lab] at hr hcr ⊢
        simp only [E.tm, nd] at hc hr hcr ⊢
        refine fn_in ?_; refine acl_in Try.func74 rfl isfn_74 (Nat.le_of_ble_eq_true rfl) (fun R hR => ?_); rw [Try.results74] at hR; refine wg_run ?_; (simp only [Try.f74, go_sem])
        repeat' (first | (first | (simp only [go_sem, int_bne]) | (((first | refine sp1 ?_ ?_ | refine sp2 ?_ ?_ | refine sp3 ?_ ?_ | refine sp4 ?_ ?_ | refine sp5 ?_ ?_ | refine sp6 ?_ ?_ | refine sp7 ?_ ?_) <;> intro hb) <;> (simp only [go_sem, hb, int_bne])) | ((first | refine wm_done ?_ | refine wt_done ?_ | refine wg_run ?_ | refine fk ?_ ?_) <;> (simp only [go_sem, int_bne]))) | (first | (refine wl_next (wg_run ?_); (simp only [go_sem])) | refine wd_rounds 6 ?_) | ((first | refine mx 6 [] follows ?_ | refine mx 5 [] follows ?_ | refine mx 4 [] follows ?_ | refine mx 3 [] follows ?_ | refine mx 2 [] follows ?_ | refine mx 1 [] follows ?_ | refine mx 0 [] follows ?_ | fail); (simp only [go_sem, int_bne])) | (first | refine cd (hc := hc) (hK := ?_) | refine cm (hc := hc) (hK := ?_) | refine ct (hc := hc) (hK := ?_)); (simp only [go_sem]) | (first | refine cd (hc := va) (hK := ?_) | refine cm (hc := va) (hK := ?_) | refine ct (hc := va) (hK := ?_)); (simp only [go_sem]) | (first | refine cd (hc := hr) (hK := ?_) | refine cm (hc := hr) (hK := ?_) | refine ct (hc := hr) (hK := ?_)); (simp only [go_sem]) | (first | refine cd (hc := hcr) (hK := ?_) | refine cm (hc := hcr) (hK := ?_) | refine ct (hc := hcr) (hK := ?_)); (simp only [go_sem]) | fail)
        all_goals (refine hR _ ?_; refine rat [] (hK := ⟨rfl, rfl⟩))
  | cast s t l a iha =>
    intro hw hn hv hz
    have hc := iCounts (E.cast s t l a).tm
    have hr := iRule (.cast s t l a) hw
    have hcr := iCastRule (.cast s t l a) hw hz (by simp [E.tm, nd, Tm.kids])
    have hred := red_cast s t l a
    simp only [E.wf, E.noA, Bool.and_eq_true] at hw hn
    simp only [E.tm, nd, Tm.size, Tm.sizes] at hz
    have va := iIsVal 100000000 (by omega) a.tm (by omega)
    rw [E.val_tm] at va
    have hcl := cloneT a.tm [] (by simp)
    simp only [stT, E.so, E.step]
    cases ea : a.val
    · rw [ea] at va
      have h1 := iha hw.2.2.2 hn ea (by omega)
      simp only [stT] at h1
      simp only [SR.map_code, SR.map_lab]
      simp only [E.tm, nd] at hc ⊢
      refine fn_in ?_; refine acl_in Try.func74 rfl isfn_74 (Nat.le_of_ble_eq_true rfl) (fun R hR => ?_); rw [Try.results74] at hR; refine wg_run ?_; (simp only [Try.f74, go_sem])
      repeat' (first | (first | (simp only [go_sem, int_bne]) | (((first | refine sp1 ?_ ?_ | refine sp2 ?_ ?_ | refine sp3 ?_ ?_ | refine sp4 ?_ ?_ | refine sp5 ?_ ?_ | refine sp6 ?_ ?_ | refine sp7 ?_ ?_) <;> intro hb) <;> (simp only [go_sem, hb, int_bne])) | ((first | refine wm_done ?_ | refine wt_done ?_ | refine wg_run ?_ | refine fk ?_ ?_) <;> (simp only [go_sem, int_bne]))) | (first | (refine wl_next (wg_run ?_); (simp only [go_sem])) | refine wd_rounds 6 ?_) | ((first | refine mx 6 [] follows ?_ | refine mx 5 [] follows ?_ | refine mx 4 [] follows ?_ | refine mx 3 [] follows ?_ | refine mx 2 [] follows ?_ | refine mx 1 [] follows ?_ | refine mx 0 [] follows ?_ | fail); (simp only [go_sem, int_bne])) | (first | refine cd (hc := hc) (hK := ?_) | refine cm (hc := hc) (hK := ?_) | refine ct (hc := hc) (hK := ?_)); (simp only [go_sem]) | (first | refine cd (hc := va) (hK := ?_) | refine cm (hc := va) (hK := ?_) | refine ct (hc := va) (hK := ?_)); (simp only [go_sem]) | (first | refine cd (hc := h1) (hK := ?_) | refine cm (hc := h1) (hK := ?_) | refine ct (hc := h1) (hK := ?_)); (simp only [go_sem]) | ((first | refine kd [] (hc := hcl) (hK := ?_) | refine km [] (hc := hcl) (hK := ?_) | refine kt [] (hc := hcl) (hK := ?_)); rintro _ _ ⟨rfl, rfl⟩ <;> (simp only [go_sem])) | fail)
      all_goals (refine hR _ ?_; refine rat [] (hK := ⟨rfl, rfl⟩))
    · rw [ea] at va
      simp only []
      rcases red_cases (.cast s t l a) with ⟨x, e1, e2⟩ | ⟨e1, e2⟩
      all_goals
        rw [e2] at hred
        rw [← hred]
        rw [e1] at hr
        simp only [ruT, srT, SR.tm, SR.code, SR.lab] at hr hcr ⊢
        simp only [E.tm, nd] at hc hr hcr ⊢
        refine fn_in ?_; refine acl_in Try.func74 rfl isfn_74 (Nat.le_of_ble_eq_true rfl) (fun R hR => ?_); rw [Try.results74] at hR; refine wg_run ?_; (simp only [Try.f74, go_sem])
        repeat' (first | (first | (simp only [go_sem, int_bne]) | (((first | refine sp1 ?_ ?_ | refine sp2 ?_ ?_ | refine sp3 ?_ ?_ | refine sp4 ?_ ?_ | refine sp5 ?_ ?_ | refine sp6 ?_ ?_ | refine sp7 ?_ ?_) <;> intro hb) <;> (simp only [go_sem, hb, int_bne])) | ((first | refine wm_done ?_ | refine wt_done ?_ | refine wg_run ?_ | refine fk ?_ ?_) <;> (simp only [go_sem, int_bne]))) | (first | (refine wl_next (wg_run ?_); (simp only [go_sem])) | refine wd_rounds 6 ?_) | ((first | refine mx 6 [] follows ?_ | refine mx 5 [] follows ?_ | refine mx 4 [] follows ?_ | refine mx 3 [] follows ?_ | refine mx 2 [] follows ?_ | refine mx 1 [] follows ?_ | refine mx 0 [] follows ?_ | fail); (simp only [go_sem, int_bne])) | (first | refine cd (hc := hc) (hK := ?_) | refine cm (hc := hc) (hK := ?_) | refine ct (hc := hc) (hK := ?_)); (simp only [go_sem]) | (first | refine cd (hc := va) (hK := ?_) | refine cm (hc := va) (hK := ?_) | refine ct (hc := va) (hK := ?_)); (simp only [go_sem]) | (first | refine cd (hc := hr) (hK := ?_) | refine cm (hc := hr) (hK := ?_) | refine ct (hc := hr) (hK := ?_)); (simp only [go_sem]) | (first | refine cd (hc := hcr) (hK := ?_) | refine cm (hc := hcr) (hK := ?_) | refine ct (hc := hcr) (hK := ?_)); (simp only [go_sem]) | fail)
        all_goals (refine hR _ ?_; refine rat [] (hK := ⟨rfl, rfl⟩))
  | var x =>
    intro hw hn hv hz
    have hc := iCounts (E.var x).tm
    have hr := iRule (.var x) hw
    simp only [stT, E.so, E.step, E.ruleI, ruT, SR.code, SR.lab] at hr ⊢
    simp only [E.tm, nd] at hc hr ⊢
    refine fn_in ?_; refine acl_in Try.func74 rfl isfn_74 (Nat.le_of_ble_eq_true rfl) (fun R hR => ?_); rw [Try.results74] at hR; refine wg_run ?_; (simp only [Try.f74, go_sem])
    repeat' (first | (first | (simp only [go_sem, int_bne]) | (((first | refine sp1 ?_ ?_ | refine sp2 ?_ ?_ | refine sp3 ?_ ?_ | refine sp4 ?_ ?_ | refine sp5 ?_ ?_ | refine sp6 ?_ ?_ | refine sp7 ?_ ?_) <;> intro hb) <;> (simp only [go_sem, hb, int_bne])) | ((first | refine wm_done ?_ | refine wt_done ?_ | refine wg_run ?_ | refine fk ?_ ?_) <;> (simp only [go_sem, int_bne]))) | (first | (refine wl_next (wg_run ?_); (simp only [go_sem])) | refine wd_rounds 6 ?_) | ((first | refine mx 6 [] follows ?_ | refine mx 5 [] follows ?_ | refine mx 4 [] follows ?_ | refine mx 3 [] follows ?_ | refine mx 2 [] follows ?_ | refine mx 1 [] follows ?_ | refine mx 0 [] follows ?_ | fail); (simp only [go_sem, int_bne])) | (first | refine cd (hc := hc) (hK := ?_) | refine cm (hc := hc) (hK := ?_) | refine ct (hc := hc) (hK := ?_)); (simp only [go_sem]) | (first | refine cd (hc := hr) (hK := ?_) | refine cm (hc := hr) (hK := ?_) | refine ct (hc := hr) (hK := ?_)); (simp only [go_sem]) | fail)
    all_goals (refine hR _ ?_; refine rat [] (hK := ⟨rfl, rfl⟩))
  | num _ | tru | fls => intro _ _ hv; simp [E.val] at hv
  | lam _ _ a ih => intro _ _ hv; simp [E.val] at hv
  | asc _ _ _ => intro _ hn; simp [E.noA] at hn
end Go.Proofs.Ytnaebafafhamjaa
/- Steps of terms with casts: substitution, in the reference. On shadows. -/
namespace Go.Proofs.Ytnaebafafhamjaa
open Go.RowKit Go.Proofs.Sh Go.Proofs.Grad
set_option maxRecDepth 100000
set_option maxHeartbeats 8000000
theorem sSubst (x : UInt8) (v : E) (hv : v.tm.size < 100000000) (e : E) : e.wf = true → e.tm.size < 100000000 → AFn Try.prog 177 [.agg (teC e.tm), .one (.sc (.string (nm x))), .agg (teC v.tm)] (.agg (teC (e.subst x v).tm)) := by
  have hvc := l2Copy 274877906944 (by omega) v.tm (by omega)
  have hno : AFn Try.prog 98 [.agg (tyC noTy)] (.agg (tyC noTy)) := l1Copy 1000 (by omega) noTy (by simp [noTy, Ty.size, Ty.sizes])
  induction e with
  | var y =>
    intro hw hz
    have hn := nm_beq y x
    simp only [E.subst]
    cases e1 : (y == x)
    all_goals
      rw [e1] at hn
      simp only [E.tm]
      refine fn_in ?_; refine acl_in Try.func177 rfl isfn_177 (Nat.le_of_ble_eq_true rfl) (fun R hR => ?_); rw [Try.results177] at hR; refine wg_run ?_; (simp only [Try.f177, go_sem, hn])
      repeat' (first | (first | (simp only [go_sem, hn]) | (((first | refine sp1 ?_ ?_ | refine sp2 ?_ ?_ | refine sp3 ?_ ?_ | refine sp4 ?_ ?_ | refine sp5 ?_ ?_ | refine sp6 ?_ ?_ | refine sp7 ?_ ?_) <;> intro hb) <;> (simp only [go_sem, hb, hn])) | ((first | refine wm_done ?_ | refine wt_done ?_ | refine wg_run ?_ | refine fk ?_ ?_) <;> (simp only [go_sem, hn]))) | (first | (refine wl_next (wg_run ?_); (simp only [go_sem])) | refine wd_rounds 6 ?_) | (first | refine cd (hc := hvc) (hK := ?_) | refine cm (hc := hvc) (hK := ?_) | refine ct (hc := hvc) (hK := ?_)); (simp only [go_sem]) | (first | refine cd (hc := hno) (hK := ?_) | refine cm (hc := hno) (hK := ?_) | refine ct (hc := hno) (hK := ?_)); (simp only [go_sem]) | ((first | refine mx 6 [] follows ?_ | refine mx 5 [] follows ?_ | refine mx 4 [] follows ?_ | refine mx 3 [] follows ?_ | refine mx 2 [] follows ?_ | refine mx 1 [] follows ?_ | refine mx 0 [] follows ?_ | fail); (simp only [go_sem, hn])) | fail)
      (refine hR _ ?_; refine rat [] (hK := ⟨rfl, rfl⟩))
  | lam y t a ih =>
    intro hw hz
    have hn := nm_beq y x
    have hec := l2Copy 274877906944 (by omega) (E.lam y t a).tm (by omega)
    simp only [E.wf, Bool.and_eq_true, decide_eq_true_eq] at hw
    simp only [E.tm, nd, Tm.size, Tm.sizes] at hz
    have ih := ih hw.2.2 (by omega)
    have ht := l1Copy 1000 (by omega) t.ty (T.ty_small hw.2.1)
    simp only [E.subst]
    cases e1 : (y == x)
    all_goals
      rw [e1] at hn
      simp only [E.tm] at hec ⊢
      refine fn_in ?_; refine acl_in Try.func177 rfl isfn_177 (Nat.le_of_ble_eq_true rfl) (fun R hR => ?_); rw [Try.results177] at hR; refine wg_run ?_; (simp only [Try.f177, go_sem, hn])
      repeat' (first | (first | (simp only [go_sem, hn]) | (((first | refine sp1 ?_ ?_ | refine sp2 ?_ ?_ | refine sp3 ?_ ?_ | refine sp4 ?_ ?_ | refine sp5 ?_ ?_ | refine sp6 ?_ ?_ | refine sp7 ?_ ?_) <;> intro hb) <;> (simp only [go_sem, hb, hn])) | ((first | refine wm_done ?_ | refine wt_done ?_ | refine wg_run ?_ | refine fk ?_ ?_) <;> (simp only [go_sem, hn]))) | (first | (refine wl_next (wg_run ?_); (simp only [go_sem])) | refine wd_rounds 6 ?_) | (first | refine cd (hc := hec) (hK := ?_) | refine cm (hc := hec) (hK := ?_) | refine ct (hc := hec) (hK := ?_)); (simp only [go_sem]) | (first | refine cd (hc := ht) (hK := ?_) | refine cm (hc := ht) (hK := ?_) | refine ct (hc := ht) (hK := ?_)); (simp only [go_sem]) | (first | refine cd (hc := hno) (hK := ?_) | refine cm (hc := hno) (hK := ?_) | refine ct (hc := hno) (hK := ?_)); (simp only [go_sem]) | (first | refine cd (hc := ih) (hK := ?_) | refine cm (hc := ih) (hK := ?_) | refine ct (hc := ih) (hK := ?_)); (simp only [go_sem]) | ((first | refine mx 6 [] follows ?_ | refine mx 5 [] follows ?_ | refine mx 4 [] follows ?_ | refine mx 3 [] follows ?_ | refine mx 2 [] follows ?_ | refine mx 1 [] follows ?_ | refine mx 0 [] follows ?_ | fail); (simp only [go_sem, hn])) | fail)
      (refine hR _ ?_; refine rat [] (hK := ⟨rfl, rfl⟩))
  | num _ | tru | fls =>
    intro hw hz
    simp only [E.subst, E.tm, nd]
    refine fn_in ?_; refine acl_in Try.func177 rfl isfn_177 (Nat.le_of_ble_eq_true rfl) (fun R hR => ?_); rw [Try.results177] at hR; refine wg_run ?_; (simp only [Try.f177, go_sem])
    repeat' (first | (first | (((first | refine sp1 ?_ ?_ | refine sp2 ?_ ?_ | refine sp3 ?_ ?_ | refine sp4 ?_ ?_ | refine sp5 ?_ ?_ | refine sp6 ?_ ?_ | refine sp7 ?_ ?_) <;> intro hb) <;> (simp only [go_sem, hb])) | ((first | refine wm_done ?_ | refine wt_done ?_ | refine wg_run ?_ | refine fk ?_ ?_) <;> (simp only [go_sem]))) | (first | (refine wl_next (wg_run ?_); (simp only [go_sem])) | refine wd_rounds 6 ?_) | (first | refine cd (hc := hno) (hK := ?_) | refine cm (hc := hno) (hK := ?_) | refine ct (hc := hno) (hK := ?_)); (simp only [go_sem]) | fail)
    (refine hR _ ?_; refine rat [] (hK := ⟨rfl, rfl⟩))
  | app a b iha ihb | add a b iha ihb | less a b iha ihb | pair a b iha ihb =>
    intro hw hz
    simp only [E.wf, Bool.and_eq_true] at hw
    simp only [E.tm, nd, Tm.size, Tm.sizes] at hz
    have iha := iha hw.1 (by omega)
    have ihb := ihb hw.2 (by omega)
    simp only [E.subst, E.tm, nd]
    refine fn_in ?_; refine acl_in Try.func177 rfl isfn_177 (Nat.le_of_ble_eq_true rfl) (fun R hR => ?_); rw [Try.results177] at hR; refine wg_run ?_; (simp only [Try.f177, go_sem])
    repeat' (first | (first | (((first | refine sp1 ?_ ?_ | refine sp2 ?_ ?_ | refine sp3 ?_ ?_ | refine sp4 ?_ ?_ | refine sp5 ?_ ?_ | refine sp6 ?_ ?_ | refine sp7 ?_ ?_) <;> intro hb) <;> (simp only [go_sem, hb])) | ((first | refine wm_done ?_ | refine wt_done ?_ | refine wg_run ?_ | refine fk ?_ ?_) <;> (simp only [go_sem]))) | (first | (refine wl_next (wg_run ?_); (simp only [go_sem])) | refine wd_rounds 6 ?_) | (first | refine cd (hc := hno) (hK := ?_) | refine cm (hc := hno) (hK := ?_) | refine ct (hc := hno) (hK := ?_)); (simp only [go_sem]) | (first | refine cd (hc := iha) (hK := ?_) | refine cm (hc := iha) (hK := ?_) | refine ct (hc := iha) (hK := ?_)); (simp only [go_sem]) | (first | refine cd (hc := ihb) (hK := ?_) | refine cm (hc := ihb) (hK := ?_) | refine ct (hc := ihb) (hK := ?_)); (simp only [go_sem]) | ((first | refine mx 6 [] follows ?_ | refine mx 5 [] follows ?_ | refine mx 4 [] follows ?_ | refine mx 3 [] follows ?_ | refine mx 2 [] follows ?_ | refine mx 1 [] follows ?_ | refine mx 0 [] follows ?_ | fail); (simp only [go_sem])) | fail)
    (refine hR _ ?_; refine rat [] (hK := ⟨rfl, rfl⟩))
  | ite a b c iha ihb ihc =>
    intro hw hz
    simp only [E.wf, Bool.and_eq_true] at hw
    simp only [E.tm, nd, Tm.size, Tm.sizes] at hz
    have iha := iha hw.1 (by omega)
    have ihb := ihb hw.2.1 (by omega)
    have ihc := ihc hw.2.2 (by omega)
    simp only [E.subst, E.tm, nd]
    refine fn_in ?_; refine acl_in Try.func177 rfl isfn_177 (Nat.le_of_ble_eq_true rfl) (fun R hR => ?_); rw [Try.results177] at hR; refine wg_run ?_; (simp only [Try.f177, go_sem])
    repeat' (first | (first | (((first | refine sp1 ?_ ?_ | refine sp2 ?_ ?_ | refine sp3 ?_ ?_ | refine sp4 ?_ ?_ | refine sp5 ?_ ?_ | refine sp6 ?_ ?_ | refine sp7 ?_ ?_) <;> intro hb) <;> (simp only [go_sem, hb])) | ((first | refine wm_done ?_ | refine wt_done ?_ | refine wg_run ?_ | refine fk ?_ ?_) <;> (simp only [go_sem]))) | (first | (refine wl_next (wg_run ?_); (simp only [go_sem])) | refine wd_rounds 6 ?_) | (first | refine cd (hc := hno) (hK := ?_) | refine cm (hc := hno) (hK := ?_) | refine ct (hc := hno) (hK := ?_)); (simp only [go_sem]) | (first | refine cd (hc := iha) (hK := ?_) | refine cm (hc := iha) (hK := ?_) | refine ct (hc := iha) (hK := ?_)); (simp only [go_sem]) | (first | refine cd (hc := ihb) (hK := ?_) | refine cm (hc := ihb) (hK := ?_) | refine ct (hc := ihb) (hK := ?_)); (simp only [go_sem]) | (first | refine cd (hc := ihc) (hK := ?_) | refine cm (hc := ihc) (hK := ?_) | refine ct (hc := ihc) (hK := ?_)); (simp only [go_sem]) | ((first | refine mx 6 [] follows ?_ | refine mx 5 [] follows ?_ | refine mx 4 [] follows ?_ | refine mx 3 [] follows ?_ | refine mx 2 [] follows ?_ | refine mx 1 [] follows ?_ | refine mx 0 [] follows ?_ | fail); (simp only [go_sem])) | fail)
    (refine hR _ ?_; refine rat [] (hK := ⟨rfl, rfl⟩))
  | fst a ih | snd a ih =>
    intro hw hz
    simp only [E.wf] at hw
    simp only [E.tm, nd, Tm.size, Tm.sizes] at hz
    have ih := ih hw (by omega)
    simp only [E.subst, E.tm, nd]
    refine fn_in ?_; refine acl_in Try.func177 rfl isfn_177 (Nat.le_of_ble_eq_true rfl) (fun R hR => ?_); rw [Try.results177] at hR; refine wg_run ?_; (simp only [Try.f177, go_sem])
    repeat' (first | (first | (((first | refine sp1 ?_ ?_ | refine sp2 ?_ ?_ | refine sp3 ?_ ?_ | refine sp4 ?_ ?_ | refine sp5 ?_ ?_ | refine sp6 ?_ ?_ | refine sp7 ?_ ?_) <;> intro hb) <;> (simp only [go_sem, hb])) | ((first | refine wm_done ?_ | refine wt_done ?_ | refine wg_run ?_ | refine fk ?_ ?_) <;> (simp only [go_sem]))) | (first | (refine wl_next (wg_run ?_); (simp only [go_sem])) | refine wd_rounds 6 ?_) | (first | refine cd (hc := hno) (hK := ?_) | refine cm (hc := hno) (hK := ?_) | refine ct (hc := hno) (hK := ?_)); (simp only [go_sem]) | (first | refine cd (hc := ih) (hK := ?_) | refine cm (hc := ih) (hK := ?_) | refine ct (hc := ih) (hK := ?_)); (simp only [go_sem]) | ((first | refine mx 6 [] follows ?_ | refine mx 5 [] follows ?_ | refine mx 4 [] follows ?_ | refine mx 3 [] follows ?_ | refine mx 2 [] follows ?_ | refine mx 1 [] follows ?_ | refine mx 0 [] follows ?_ | fail); (simp only [go_sem])) | fail)
    (refine hR _ ?_; refine rat [] (hK := ⟨rfl, rfl⟩))
  | cast s t l a ih =>
    intro hw hz
    simp only [E.wf, Bool.and_eq_true, decide_eq_true_eq] at hw
    simp only [E.tm, nd, Tm.size, Tm.sizes] at hz
    have ih := ih hw.2.2.2 (by omega)
    have ht := l1Copy 1000 (by omega) t.ty (T.ty_small hw.1.2)
    have hs := l1Copy 1000 (by omega) s.ty (T.ty_small hw.1.1)
    simp only [E.subst, E.tm, nd]
    refine fn_in ?_; refine acl_in Try.func177 rfl isfn_177 (Nat.le_of_ble_eq_true rfl) (fun R hR => ?_); rw [Try.results177] at hR; refine wg_run ?_; (simp only [Try.f177, go_sem])
    repeat' (first | (first | (((first | refine sp1 ?_ ?_ | refine sp2 ?_ ?_ | refine sp3 ?_ ?_ | refine sp4 ?_ ?_ | refine sp5 ?_ ?_ | refine sp6 ?_ ?_ | refine sp7 ?_ ?_) <;> intro hb) <;> (simp only [go_sem, hb])) | ((first | refine wm_done ?_ | refine wt_done ?_ | refine wg_run ?_ | refine fk ?_ ?_) <;> (simp only [go_sem]))) | (first | (refine wl_next (wg_run ?_); (simp only [go_sem])) | refine wd_rounds 6 ?_) | (first | refine cd (hc := ht) (hK := ?_) | refine cm (hc := ht) (hK := ?_) | refine ct (hc := ht) (hK := ?_)); (simp only [go_sem]) | (first | refine cd (hc := hs) (hK := ?_) | refine cm (hc := hs) (hK := ?_) | refine ct (hc := hs) (hK := ?_)); (simp only [go_sem]) | (first | refine cd (hc := ih) (hK := ?_) | refine cm (hc := ih) (hK := ?_) | refine ct (hc := ih) (hK := ?_)); (simp only [go_sem]) | ((first | refine mx 6 [] follows ?_ | refine mx 5 [] follows ?_ | refine mx 4 [] follows ?_ | refine mx 3 [] follows ?_ | refine mx 2 [] follows ?_ | refine mx 1 [] follows ?_ | refine mx 0 [] follows ?_ | fail); (simp only [go_sem])) | fail)
    (refine hR _ ?_; refine rat [] (hK := ⟨rfl, rfl⟩))
  | _ =>
    rename_i t a ih
    intro hw hz
    simp only [E.wf, Bool.and_eq_true, decide_eq_true_eq] at hw
    simp only [E.tm, nd, Tm.size, Tm.sizes] at hz
    have ih := ih hw.2 (by omega)
    have ht := l1Copy 1000 (by omega) t.ty (T.ty_small hw.1)
    simp only [E.subst, E.tm, nd]
    refine fn_in ?_; refine acl_in Try.func177 rfl isfn_177 (Nat.le_of_ble_eq_true rfl) (fun R hR => ?_); rw [Try.results177] at hR; refine wg_run ?_; (simp only [Try.f177, go_sem])
    repeat' (first | (first | (((first | refine sp1 ?_ ?_ | refine sp2 ?_ ?_ | refine sp3 ?_ ?_ | refine sp4 ?_ ?_ | refine sp5 ?_ ?_ | refine sp6 ?_ ?_ | refine sp7 ?_ ?_) <;> intro hb) <;> (simp only [go_sem, hb])) | ((first | refine wm_done ?_ | refine wt_done ?_ | refine wg_run ?_ | refine fk ?_ ?_) <;> (simp only [go_sem]))) | (first | (refine wl_next (wg_run ?_); (simp only [go_sem])) | refine wd_rounds 6 ?_) | (first | refine cd (hc := ht) (hK := ?_) | refine cm (hc := ht) (hK := ?_) | refine ct (hc := ht) (hK := ?_)); (simp only [go_sem]) | (first | refine cd (hc := hno) (hK := ?_) | refine cm (hc := hno) (hK := ?_) | refine ct (hc := hno) (hK := ?_)); (simp only [go_sem]) | (first | refine cd (hc := ih) (hK := ?_) | refine cm (hc := ih) (hK := ?_) | refine ct (hc := ih) (hK := ?_)); (simp only [go_sem]) | ((first | refine mx 6 [] follows ?_ | refine mx 5 [] follows ?_ | refine mx 4 [] follows ?_ | refine mx 3 [] follows ?_ | refine mx 2 [] follows ?_ | refine mx 1 [] follows ?_ | refine mx 0 [] follows ?_ | fail); (simp only [go_sem])) | fail)
    (refine hR _ ?_; refine rat [] (hK := ⟨rfl, rfl⟩))
end Go.Proofs.Ytnaebafafhamjaa
