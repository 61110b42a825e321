/- Texts of the proof, one behind another. -/
import Derived.Test.YtjmicohbnpbemaaGreatKE25
set_option linter.unusedSimpArgs false
set_option linter.unusedVariables false
/- Evaluation of terms with casts, in the program and in the reference. On shadows. -/
namespace Go.Proofs.Grad
theorem E.evI_stop {e : E} (h : ∀ x, e.sc ≠ .took x) (m n : Nat) : e.evI m n = (e.sc, n) := by
  cases m with
  | zero => rfl
  | succ m =>
    rw [E.evI]
    cases hx : e.sc with
    | took y => exact absurd hx (h y)
    | _ => rfl
theorem E.evI_took {e x : E} (h : e.sc = .took x) (m n : Nat) : e.evI (m + 1) n = x.evI m (n + 1) := by
  simp only [E.evI, h]
end Go.Proofs.Grad
namespace Go.Proofs.YtjmicohbnpbemaaGreat
open Go.RowKit Go.Proofs.Sh Go.Proofs.Grad
set_option maxRecDepth 100000
set_option maxHeartbeats 8000000
def evT (r : SC × Nat) : AV := .tup [.agg (teC r.1.tm), .one (.sc (.int .i64 r.1.code)), .one (.sc (.int .i64 r.1.lab)), .one (.sc (.int .i64 (r.2 : Nat)))]
def evBad : AV := .tup [.agg (teC tm0), .one (.sc (.int .i64 3)), .one (.sc (.int .i64 0)), .one (.sc (.int .i64 0))]
theorem iEvalBad (g : FuncId) (hg : ∀ t : Tm, AFn Tryz.prog g [.agg (teC t)] (.tup [])) (t : Tm) (h : t.castV = false) (f : Int) : AFn Tryz.prog 43 [.agg (teC t), .one (.sc (.int .i64 f)), .one (.fn g [])] evBad := by
  have hs := iStepBad t h
  unfold evBad
  simp only [badT, tm0, noTy] at hs ⊢
  refine fn_in ?_; refine acl_in Tryz.func43 rfl isfn_43 (Nat.le_of_ble_eq_true rfl) (fun R hR => ?_); rw [Tryz.results43] at hR; refine wg_run ?_; (simp only [Tryz.f43, go_sem])
  repeat' (first | (first | (simp only [go_sem, int_bne]) | (((first | apply sp1 | apply sp2 | apply sp3 | apply sp4 | apply sp5 | apply sp6 | apply sp7) <;> intro hb) <;> (simp only [go_sem, hb, int_bne])) | ((first | apply wm_done | apply wt_done | apply wg_run | refine fk ?_ ?_) <;> (simp only [go_sem, int_bne]))) | (first | (refine wl_next (wg_run ?_); (simp only [go_sem])) | refine wd_rounds 6 ?_) | (first | refine cdq ?_ (hc := hg t) | refine cmq ?_ (hc := hg t) | refine ctq ?_ (hc := hg t)); (simp only [go_sem]) | (first | refine cdq ?_ (hc := hs) | refine cmq ?_ (hc := hs) | refine ctq ?_ (hc := hs)); (simp only [go_sem]) | fail)
  all_goals (refine hR _ ?_; refine rat [] (hK := ⟨rfl, rfl⟩))
theorem iEvaluate (g : FuncId) (hg : ∀ t : Tm, AFn Tryz.prog g [.agg (teC t)] (.tup [])) (e : E) (h : e.okC = true) (f : Nat) (hf : f ≤ 300) : AFn Tryz.prog 43 [.agg (teC e.tm), .one (.sc (.int .i64 (f : Nat))), .one (.fn g [])] (evT (e.evI f 0)) := by
  refine fn_in ?_; refine acl_in Tryz.func43 rfl isfn_43 (Nat.le_of_ble_eq_true rfl) (fun R hR => ?_); rw [Tryz.results43] at hR; refine wg_run ?_; (simp only [Tryz.f43, go_sem])
  repeat' (first | (first | (((first | apply sp1 | apply sp2 | apply sp3 | apply sp4 | apply sp5 | apply sp6 | apply sp7) <;> intro hb) <;> (simp only [go_sem, hb])) | ((first | apply wm_done | apply wt_done | apply wg_run | refine fk ?_ ?_) <;> (simp only [go_sem]))) | (first | refine cdq ?_ (hc := hg _) | refine cmq ?_ (hc := hg _) | refine ctq ?_ (hc := hg _)); (simp only [go_sem]) | fail)
  refine wd_for [1, 2, 3, 6, 7, 8, 9, 10] (fun (s : Nat × E) => [.one (.sc (.int .i64 (f : Nat))), .one (.fn g []), .one (.ptr 9 0 0 0), .one (.ptr 9 1 0 0), .one (.sc (.int .i64 0)), .one (.sc (.int .i64 0)), .one (.sc (.int .i64 0)), .one (.sc (.int .i64 (s.1 : Nat)))])
    (fun s => [⟨9, 28, .mut, [teC s.2.tm]⟩, ⟨9, 28, .mut, [[.sc (.int .i64 0), .sc (.string { data := { toList := [] } }), .sc (.int .i64 0), .sc (.int .i64 0), .sc (.slice none 0 0), .sc (.int .i64 0), .sc (.slice none 0 0), .sc (.int .i64 0), .sc (.slice none 0 0)]]⟩])
    (fun s => s.1 ≤ f ∧ s.2.okC = true ∧ s.2.evI (f - s.1) s.1 = e.evI f 0) (fun s => f - s.1) (0, e) ⟨Nat.zero_le _, h, rfl⟩ (hat [0, 1] (hI := ⟨rfl, rfl⟩)) ?_
  rintro ⟨k, x⟩ ⟨hk, hx, hev⟩ G hG
  simp only [] at hk hx hev
  have hs := iStepCast x hx
  refine wg_run ?_
  cases hsc : x.sc with
  | took y =>
    rw [hsc] at hs
    simp only [scT, SC.tm, SC.code, SC.lab] at hs
    by_cases hkf : k = f
    · have hke : (((k : Nat) : Int) == (f : Int)) = true := by simp [hkf]
      have hz0 : f - k = 0 := by omega
      rw [hz0] at hev
      simp only [E.evI, hsc] at hev
      (simp only [go_sem, hke])
      repeat' (first | (first | (simp only [go_sem, int_bne, hke]) | (((first | apply sp1 | apply sp2 | apply sp3 | apply sp4 | apply sp5 | apply sp6 | apply sp7) <;> intro hb) <;> (simp only [go_sem, hb, int_bne, hke])) | ((first | apply wm_done | apply wt_done | apply wg_run | refine fk ?_ ?_) <;> (simp only [go_sem, int_bne, hke]))) | (first | refine cdq ?_ (hc := hs) | refine cmq ?_ (hc := hs) | refine ctq ?_ (hc := hs)); (simp only [go_sem]) | fail)
      rw [← hev] at hR
      all_goals (refine hR _ ?_; refine rat [] (hK := ⟨rfl, rfl⟩))
    · have hke : (((k : Nat) : Int) == (f : Int)) = false := by simp; omega
      have hw1 := wrap_succ (k := k) (n := f) (by omega) (by omega)
      obtain ⟨m, hm⟩ : ∃ m, f - k = m + 1 := ⟨f - k - 1, by omega⟩
      rw [hm, E.evI_took hsc] at hev
      have hm2 : f - (k + 1) = m := by omega
      (simp only [go_sem, hke])
      repeat' (first | (first | (simp only [go_sem, int_bne, hke, hw1]) | (((first | apply sp1 | apply sp2 | apply sp3 | apply sp4 | apply sp5 | apply sp6 | apply sp7) <;> intro hb) <;> (simp only [go_sem, hb, int_bne, hke, hw1])) | ((first | apply wm_done | apply wt_done | apply wg_run | refine fk ?_ ?_) <;> (simp only [go_sem, int_bne, hke, hw1]))) | (first | refine cdq ?_ (hc := hs) | refine cmq ?_ (hc := hs) | refine ctq ?_ (hc := hs)); (simp only [go_sem]) | (first | refine cdq ?_ (hc := hg y.tm) | refine cmq ?_ (hc := hg y.tm) | refine ctq ?_ (hc := hg y.tm)); (simp only [go_sem]) | fail)
      exact hG (k + 1, y) _ _ ⟨by show k + 1 ≤ f; omega, E.sc_ok hsc, by show y.evI (f - (k + 1)) (k + 1) = _; rw [hm2]; exact hev⟩ (by show f - (k + 1) < f - k; omega) (hat [0, 1] (hI := ⟨rfl, rfl⟩))
  | _ =>
    rw [E.evI_stop (fun y => by rw [hsc]; simp), hsc] at hev
    rw [← hev] at hR
    rw [hsc] at hs
    simp only [scT, SC.tm, SC.code, SC.lab] at hs
    (try simp only [tm0, noTy] at hs)
    (simp only [go_sem])
    repeat' (first | (first | (simp only [go_sem, int_bne]) | (((first | apply sp1 | apply sp2 | apply sp3 | apply sp4 | apply sp5 | apply sp6 | apply sp7) <;> intro hb) <;> (simp only [go_sem, hb, int_bne])) | ((first | apply wm_done | apply wt_done | apply wg_run | refine fk ?_ ?_) <;> (simp only [go_sem, int_bne]))) | (first | refine cdq ?_ (hc := hs) | refine cmq ?_ (hc := hs) | refine ctq ?_ (hc := hs)); (simp only [go_sem]) | fail)
    all_goals (refine hR _ ?_; refine rat [] (hK := ⟨rfl, rfl⟩))
theorem iIsFuel (f : Int) : AFn Tryz.prog 42 [.one (.sc (.int .i64 f))] (.one (.sc (.bool (decide (0 ≤ f) && decide (f ≤ 300))))) := by
  have h := within f 0 300
  refine fn_in ?_; refine acl_in Tryz.func42 rfl isfn_42 (Nat.le_of_ble_eq_true rfl) (fun R hR => ?_); rw [Tryz.results42] at hR; refine wg_run ?_; (simp only [Tryz.f42, go_sem])
  repeat' (first | (first | (((first | apply sp1 | apply sp2 | apply sp3 | apply sp4 | apply sp5 | apply sp6 | apply sp7) <;> intro hb) <;> (simp only [go_sem, hb])) | ((first | apply wm_done | apply wt_done | apply wg_run | refine fk ?_ ?_) <;> (simp only [go_sem]))) | (first | refine cdq ?_ (hc := h) | refine cmq ?_ (hc := h) | refine ctq ?_ (hc := h)); (simp only [go_sem]) | fail)
  all_goals (refine hR _ ?_; refine rat [] (hK := ⟨rfl, rfl⟩))
end Go.Proofs.YtjmicohbnpbemaaGreat
/- StepCast and EvalCast at terms as they come. No program, no world. -/
namespace Go.Proofs.Grad
noncomputable def Tm.evalV (t : Tm) (f : Int) : SC := by
  classical
  exact if h : t.castV = true then (match decide (0 ≤ f) && decide (f ≤ 300) with | true => ((Classical.choose (Tm.castV_E h)).evI f.toNat 0).1 | false => .stuck) else .stuck
theorem Tm.evalV_E {e : E} (h : e.okC = true) (f : Nat) (hf : f ≤ 300) : e.tm.evalV f = (e.evI f 0).1 := by
  have h' : e.tm.castV = true := by rw [E.castV_tm]; exact h
  unfold Tm.evalV
  rw [dif_pos h', E.tm_inj _ _ (Classical.choose_spec (Tm.castV_E h')).1]
  have : (decide ((0 : Int) ≤ (f : Int)) && decide ((f : Int) ≤ 300)) = true := by simp; omega
  rw [this]
  rfl
theorem Tm.evalV_bad {t : Tm} (h : t.castV = false) (f : Int) : t.evalV f = .stuck := by unfold Tm.evalV; rw [dif_neg (by simp [h])]
theorem Tm.evalV_off (t : Tm) {f : Int} (h : (decide (0 ≤ f) && decide (f ≤ 300)) = false) : t.evalV f = .stuck := by
  unfold Tm.evalV; split
  · rw [h]
  · rfl
end Go.Proofs.Grad
/- StepCast and EvalCast at terms as they come, in the program and in the reference. On shadows. -/
namespace Go.Proofs.YtjmicohbnpbemaaGreat
open Go.RowKit Go.Proofs.Sh Go.Proofs.Grad
set_option maxRecDepth 100000
set_option maxHeartbeats 8000000
def ecT (r : SC) : AV := .tup [.agg (teC r.etm), .one (.sc (.int .i64 r.ecode)), .one (.sc (.int .i64 r.lab))]
theorem iReach2 (t : Tm) : AFn Tryz.prog 44 [.agg (teC t)] (.tup []) := by
  refine fn_in ?_; refine acl_in Tryz.func44 rfl isfn_44 (Nat.le_of_ble_eq_true rfl) (fun R hR => ?_); rw [Tryz.results44] at hR; refine wg_run ?_; (simp only [Tryz.f44, go_sem])
  repeat' (first | (first | (((first | apply sp1 | apply sp2 | apply sp3 | apply sp4 | apply sp5 | apply sp6 | apply sp7) <;> intro hb) <;> (simp only [go_sem, hb])) | ((first | apply wm_done | apply wt_done | apply wg_run | refine fk ?_ ?_) <;> (simp only [go_sem]))) | fail)
  (refine hR _ ?_; refine rat [] (hK := ⟨rfl, rfl⟩))
theorem iEvalV (t : Tm) (f : Int) : AFn Tryz.prog 17 [.agg (teC t), .one (.sc (.int .i64 f))] (ecT (t.evalV f)) := by
  have hf := iIsFuel f
  cases hb : (decide (0 ≤ f) && decide (f ≤ 300))
  · rw [hb] at hf
    rw [Tm.evalV_off t hb]
    simp only [ecT, SC.etm, SC.ecode, SC.tm, SC.code, SC.lab]
    simp only [tm0, noTy]
    refine fn_in ?_; refine acl_in Tryz.func17 rfl isfn_17 (Nat.le_of_ble_eq_true rfl) (fun R hR => ?_); rw [Tryz.results17] at hR; refine wg_run ?_; (simp only [Tryz.f17, go_sem])
    repeat' (first | (first | (((first | apply sp1 | apply sp2 | apply sp3 | apply sp4 | apply sp5 | apply sp6 | apply sp7) <;> intro hb) <;> (simp only [go_sem, hb])) | ((first | apply wm_done | apply wt_done | apply wg_run | refine fk ?_ ?_) <;> (simp only [go_sem]))) | (first | refine cdq ?_ (hc := hf) | refine cmq ?_ (hc := hf) | refine ctq ?_ (hc := hf)); (simp only [go_sem]) | fail)
    (refine hR _ ?_; refine rat [] (hK := ⟨rfl, rfl⟩))
  · rw [hb] at hf
    simp only [Bool.and_eq_true, decide_eq_true_eq] at hb
    cases hc : t.castV
    · have he := iEvalBad 44 iReach2 t hc f
      rw [Tm.evalV_bad hc]
      simp only [evBad] at he
      simp only [ecT, SC.etm, SC.ecode, SC.tm, SC.code, SC.lab]
      refine fn_in ?_; refine acl_in Tryz.func17 rfl isfn_17 (Nat.le_of_ble_eq_true rfl) (fun R hR => ?_); rw [Tryz.results17] at hR; refine wg_run ?_; (simp only [Tryz.f17, go_sem])
      repeat' (first | (first | (((first | apply sp1 | apply sp2 | apply sp3 | apply sp4 | apply sp5 | apply sp6 | apply sp7) <;> intro hb) <;> (simp only [go_sem, hb])) | ((first | apply wm_done | apply wt_done | apply wg_run | refine fk ?_ ?_) <;> (simp only [go_sem]))) | (first | refine cdq ?_ (hc := hf) | refine cmq ?_ (hc := hf) | refine ctq ?_ (hc := hf)); (simp only [go_sem]) | (first | refine cdq ?_ (hc := he) | refine cmq ?_ (hc := he) | refine ctq ?_ (hc := he)); (simp only [go_sem]) | fail)
      (refine hR _ ?_; refine rat [] (hK := ⟨rfl, rfl⟩))
    · obtain ⟨e, rfl, ho⟩ := Tm.castV_E hc
      obtain ⟨n, rfl⟩ := Int.eq_ofNat_of_zero_le hb.1
      have he := iEvaluate 44 iReach2 e ho n (by omega)
      rw [Tm.evalV_E ho n (by omega)]
      generalize e.evI n 0 = r at he
      obtain ⟨r, m⟩ := r
      simp only [evT] at he
      cases r
      all_goals
        simp only [SC.tm, SC.code, SC.lab] at he
        simp only [ecT, SC.etm, SC.ecode, SC.tm, SC.code, SC.lab]
        (try simp only [tm0, noTy] at he ⊢)
        refine fn_in ?_; refine acl_in Tryz.func17 rfl isfn_17 (Nat.le_of_ble_eq_true rfl) (fun R hR => ?_); rw [Tryz.results17] at hR; refine wg_run ?_; (simp only [Tryz.f17, go_sem])
        repeat' (first | (first | (((first | apply sp1 | apply sp2 | apply sp3 | apply sp4 | apply sp5 | apply sp6 | apply sp7) <;> intro hb) <;> (simp only [go_sem, hb])) | ((first | apply wm_done | apply wt_done | apply wg_run | refine fk ?_ ?_) <;> (simp only [go_sem]))) | (first | refine cdq ?_ (hc := hf) | refine cmq ?_ (hc := hf) | refine ctq ?_ (hc := hf)); (simp only [go_sem]) | (first | refine cdq ?_ (hc := he) | refine cmq ?_ (hc := he) | refine ctq ?_ (hc := he)); (simp only [go_sem]) | fail)
        (refine hR _ ?_; refine rat [] (hK := ⟨rfl, rfl⟩))
end Go.Proofs.YtjmicohbnpbemaaGreat
