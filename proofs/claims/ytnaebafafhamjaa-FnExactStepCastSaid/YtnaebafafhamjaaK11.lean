/- Texts of the proof, one behind another. -/
import Derived.Test.YtnaebafafhamjaaK4
import Derived.Test.YtnaebafafhamjaaK5
import Derived.Test.YtnaebafafhamjaaK6
import Derived.Test.YtnaebafafhamjaaK7
import Derived.Test.YtnaebafafhamjaaK10
set_option linter.unusedSimpArgs false
set_option linter.unusedVariables false
/- Evaluation of terms with casts, in the program and in the reference. On shadows. -/
namespace Go.Proofs.Grad
theorem E.evI_stop {e : E} (h : ∀ x, e.sc ≠ .took x) (m n : Nat) : e.evI m n = (e.sc, n) := by
  cases m with
  | zero => rfl
  | succ m =>
    rw [E.evI]
    cases hx : e.sc with
    | took y => exact absurd hx (h y)
    | _ => rfl
theorem E.evI_took {e x : E} (h : e.sc = .took x) (m n : Nat) : e.evI (m + 1) n = x.evI m (n + 1) := by
  simp only [E.evI, h]
end Go.Proofs.Grad
namespace Go.Proofs.Ytnaebafafhamjaa
open Go.RowKit Go.Proofs.Sh Go.Proofs.Grad
set_option maxRecDepth 100000
set_option maxHeartbeats 8000000
def evT (r : SC × Nat) : AV := .tup [.agg (teC r.1.tm), .one (.sc (.int .i64 r.1.code)), .one (.sc (.int .i64 r.1.lab)), .one (.sc (.int .i64 (r.2 : Nat)))]
def evS (r : SC × Nat) : AV := .tup [.agg (teC r.1.etm), .one (.sc (.int .i64 r.1.ecode)), .one (.sc (.int .i64 r.1.lab)), .one (.sc (.int .i64 (r.2 : Nat)))]
def evBad : AV := .tup [.agg (teC tm0), .one (.sc (.int .i64 3)), .one (.sc (.int .i64 0)), .one (.sc (.int .i64 0))]
theorem iEvalBad (g : FuncId) (hg : ∀ t : Tm, AFn Try.prog g [.agg (teC t)] (.tup [])) (t : Tm) (h : t.castV = false) (f : Int) : AFn Try.prog 56 [.agg (teC t), .one (.sc (.int .i64 f)), .one (.fn g [])] evBad := by
  have hs := iStepBad t h
  unfold evBad
  simp only [badT, tm0, noTy] at hs ⊢
  refine fn_in ?_; refine acl_in Try.func56 rfl isfn_56 (Nat.le_of_ble_eq_true rfl) (fun R hR => ?_); rw [Try.results56] at hR; refine wg_run ?_; (simp only [Try.f56, go_sem])
  repeat' (first | (first | (simp only [go_sem, int_bne]) | (((first | refine sp1 ?_ ?_ | refine sp2 ?_ ?_ | refine sp3 ?_ ?_ | refine sp4 ?_ ?_ | refine sp5 ?_ ?_ | refine sp6 ?_ ?_ | refine sp7 ?_ ?_) <;> intro hb) <;> (simp only [go_sem, hb, int_bne])) | ((first | refine wm_done ?_ | refine wt_done ?_ | refine wg_run ?_ | refine fk ?_ ?_) <;> (simp only [go_sem, int_bne]))) | (first | (refine wl_next (wg_run ?_); (simp only [go_sem])) | refine wd_rounds 6 ?_) | (first | refine cd (hc := hg t) (hK := ?_) | refine cm (hc := hg t) (hK := ?_) | refine ct (hc := hg t) (hK := ?_)); (simp only [go_sem]) | (first | refine cd (hc := hs) (hK := ?_) | refine cm (hc := hs) (hK := ?_) | refine ct (hc := hs) (hK := ?_)); (simp only [go_sem]) | fail)
  all_goals (refine hR _ ?_; refine rat [] (hK := ⟨rfl, rfl⟩))
theorem iEvaluate (g : FuncId) (hg : ∀ t : Tm, AFn Try.prog g [.agg (teC t)] (.tup [])) (e : E) (h : e.okC = true) (f : Nat) (hf : f ≤ 300) : AFn Try.prog 56 [.agg (teC e.tm), .one (.sc (.int .i64 (f : Nat))), .one (.fn g [])] (evT (e.evI f 0)) := by
  refine fn_in ?_; refine acl_in Try.func56 rfl isfn_56 (Nat.le_of_ble_eq_true rfl) (fun R hR => ?_); rw [Try.results56] at hR; refine wg_run ?_; (simp only [Try.f56, go_sem])
  repeat' (first | (first | (((first | refine sp1 ?_ ?_ | refine sp2 ?_ ?_ | refine sp3 ?_ ?_ | refine sp4 ?_ ?_ | refine sp5 ?_ ?_ | refine sp6 ?_ ?_ | refine sp7 ?_ ?_) <;> intro hb) <;> (simp only [go_sem, hb])) | ((first | refine wm_done ?_ | refine wt_done ?_ | refine wg_run ?_ | refine fk ?_ ?_) <;> (simp only [go_sem]))) | (first | refine cd (hc := hg _) (hK := ?_) | refine cm (hc := hg _) (hK := ?_) | refine ct (hc := hg _) (hK := ?_)); (simp only [go_sem]) | fail)
  refine wd_for [1, 2, 3, 6, 7, 8, 9, 10] (fun (s : Nat × E) => [.one (.sc (.int .i64 (f : Nat))), .one (.fn g []), .one (.ptr 9 0 0 0), .one (.ptr 9 1 0 0), .one (.sc (.int .i64 0)), .one (.sc (.int .i64 0)), .one (.sc (.int .i64 0)), .one (.sc (.int .i64 (s.1 : Nat)))])
    (fun s => [⟨9, 28, .mut, [teC s.2.tm]⟩, ⟨9, 28, .mut, [[.sc (.int .i64 0), .sc (.string { data := { toList := [] } }), .sc (.int .i64 0), .sc (.int .i64 0), .sc (.slice none 0 0), .sc (.int .i64 0), .sc (.slice none 0 0), .sc (.int .i64 0), .sc (.slice none 0 0)]]⟩])
    (fun s => s.1 ≤ f ∧ s.2.okC = true ∧ s.2.evI (f - s.1) s.1 = e.evI f 0) (fun s => f - s.1) (0, e) ⟨Nat.zero_le _, h, rfl⟩ (hat [0, 1] (hI := ⟨rfl, rfl⟩)) ?_
  rintro ⟨k, x⟩ ⟨hk, hx, hev⟩ G hG
  simp only [] at hk hx hev
  have hs := iStepCast x hx
  refine wg_run ?_
  cases hsc : x.sc with
  | took y =>
    rw [hsc] at hs
    simp only [scT, SC.tm, SC.code, SC.lab] at hs
    by_cases hkf : k = f
    · have hke : (((k : Nat) : Int) == (f : Int)) = true := by simp [hkf]
      have hz0 : f - k = 0 := by omega
      rw [hz0] at hev
      simp only [E.evI, hsc] at hev
      (simp only [go_sem, hke])
      repeat' (first | (first | (simp only [go_sem, int_bne, hke]) | (((first | refine sp1 ?_ ?_ | refine sp2 ?_ ?_ | refine sp3 ?_ ?_ | refine sp4 ?_ ?_ | refine sp5 ?_ ?_ | refine sp6 ?_ ?_ | refine sp7 ?_ ?_) <;> intro hb) <;> (simp only [go_sem, hb, int_bne, hke])) | ((first | refine wm_done ?_ | refine wt_done ?_ | refine wg_run ?_ | refine fk ?_ ?_) <;> (simp only [go_sem, int_bne, hke]))) | (first | refine cd (hc := hs) (hK := ?_) | refine cm (hc := hs) (hK := ?_) | refine ct (hc := hs) (hK := ?_)); (simp only [go_sem]) | fail)
      rw [← hev] at hR
      all_goals (refine hR _ ?_; refine rat [] (hK := ⟨rfl, rfl⟩))
    · have hke : (((k : Nat) : Int) == (f : Int)) = false := by simp; omega
      have hw1 := wrap_succ (k := k) (n := f) (by omega) (by omega)
      obtain ⟨m, hm⟩ : ∃ m, f - k = m + 1 := ⟨f - k - 1, by omega⟩
      rw [hm, E.evI_took hsc] at hev
      have hm2 : f - (k + 1) = m := by omega
      (simp only [go_sem, hke])
      repeat' (first | (first | (simp only [go_sem, int_bne, hke, hw1]) | (((first | refine sp1 ?_ ?_ | refine sp2 ?_ ?_ | refine sp3 ?_ ?_ | refine sp4 ?_ ?_ | refine sp5 ?_ ?_ | refine sp6 ?_ ?_ | refine sp7 ?_ ?_) <;> intro hb) <;> (simp only [go_sem, hb, int_bne, hke, hw1])) | ((first | refine wm_done ?_ | refine wt_done ?_ | refine wg_run ?_ | refine fk ?_ ?_) <;> (simp only [go_sem, int_bne, hke, hw1]))) | (first | refine cd (hc := hs) (hK := ?_) | refine cm (hc := hs) (hK := ?_) | refine ct (hc := hs) (hK := ?_)); (simp only [go_sem]) | (first | refine cd (hc := hg y.tm) (hK := ?_) | refine cm (hc := hg y.tm) (hK := ?_) | refine ct (hc := hg y.tm) (hK := ?_)); (simp only [go_sem]) | fail)
      exact hG (k + 1, y) _ _ ⟨by show k + 1 ≤ f; omega, E.sc_ok hsc, by show y.evI (f - (k + 1)) (k + 1) = _; rw [hm2]; exact hev⟩ (by show f - (k + 1) < f - k; omega) (hat [0, 1] (hI := ⟨rfl, rfl⟩))
  | _ =>
    rw [E.evI_stop (fun y => by rw [hsc]; simp), hsc] at hev
    rw [← hev] at hR
    rw [hsc] at hs
    simp only [scT, SC.tm, SC.code, SC.lab] at hs
    (try simp only [tm0, noTy] at hs)
    (simp only [go_sem])
    repeat' (first | (first | (simp only [go_sem, int_bne]) | (((first | refine sp1 ?_ ?_ | refine sp2 ?_ ?_ | refine sp3 ?_ ?_ | refine sp4 ?_ ?_ | refine sp5 ?_ ?_ | refine sp6 ?_ ?_ | refine sp7 ?_ ?_) <;> intro hb) <;> (simp only [go_sem, hb, int_bne])) | ((first | refine wm_done ?_ | refine wt_done ?_ | refine wg_run ?_ | refine fk ?_ ?_) <;> (simp only [go_sem, int_bne]))) | (first | refine cd (hc := hs) (hK := ?_) | refine cm (hc := hs) (hK := ?_) | refine ct (hc := hs) (hK := ?_)); (simp only [go_sem]) | fail)
    all_goals (refine hR _ ?_; refine rat [] (hK := ⟨rfl, rfl⟩))
theorem sEvalBad (t : Tm) (h : t.castV = false) (hz : t.size < 4611686018427387904) (f : Int) : AFn Try.prog 52 [.agg (teC t), .one (.sc (.int .i64 f))] evBad := by
  have hs := sStepBad t h hz
  unfold evBad
  simp only [badT, tm0, noTy] at hs ⊢
  refine fn_in ?_; refine acl_in Try.func52 rfl isfn_52 (Nat.le_of_ble_eq_true rfl) (fun R hR => ?_); rw [Try.results52] at hR; refine wg_run ?_; (simp only [Try.f52, go_sem])
  repeat' (first | (first | (simp only [go_sem, int_bne]) | (((first | refine sp1 ?_ ?_ | refine sp2 ?_ ?_ | refine sp3 ?_ ?_ | refine sp4 ?_ ?_ | refine sp5 ?_ ?_ | refine sp6 ?_ ?_ | refine sp7 ?_ ?_) <;> intro hb) <;> (simp only [go_sem, hb, int_bne])) | ((first | refine wm_done ?_ | refine wt_done ?_ | refine wg_run ?_ | refine fk ?_ ?_) <;> (simp only [go_sem, int_bne]))) | (first | (refine wl_next (wg_run ?_); (simp only [go_sem])) | refine wd_rounds 6 ?_) | (first | refine cd (hc := hs) (hK := ?_) | refine cm (hc := hs) (hK := ?_) | refine ct (hc := hs) (hK := ?_)); (simp only [go_sem]) | fail)
  all_goals (refine hR _ ?_; refine rat [] (hK := ⟨rfl, rfl⟩))
theorem sEval (e : E) (h : e.okC = true) (f : Nat) (hf : f ≤ 300) : AFn Try.prog 52 [.agg (teC e.tm), .one (.sc (.int .i64 (f : Nat)))] (evS (e.evI f 0)) := by
  refine fn_in ?_; refine acl_in Try.func52 rfl isfn_52 (Nat.le_of_ble_eq_true rfl) (fun R hR => ?_); rw [Try.results52] at hR; refine wg_run ?_; (simp only [Try.f52, go_sem])
  repeat' (first | (first | (((first | refine sp1 ?_ ?_ | refine sp2 ?_ ?_ | refine sp3 ?_ ?_ | refine sp4 ?_ ?_ | refine sp5 ?_ ?_ | refine sp6 ?_ ?_ | refine sp7 ?_ ?_) <;> intro hb) <;> (simp only [go_sem, hb])) | ((first | refine wm_done ?_ | refine wt_done ?_ | refine wg_run ?_ | refine fk ?_ ?_) <;> (simp only [go_sem]))) | fail)
  refine wd_for [1, 2, 4, 5, 6, 7, 8] (fun (s : Nat × E) => [.one (.sc (.int .i64 (f : Nat))), .one (.ptr 9 0 0 0), .one (.ptr 9 1 0 0), .one (.sc (.int .i64 0)), .one (.sc (.int .i64 0)), .one (.sc (.int .i64 0)), .one (.sc (.int .i64 (s.1 : Nat)))])
    (fun s => [⟨9, 28, .mut, [teC s.2.tm]⟩, ⟨9, 28, .mut, [[.sc (.int .i64 0), .sc (.string { data := { toList := [] } }), .sc (.int .i64 0), .sc (.int .i64 0), .sc (.slice none 0 0), .sc (.int .i64 0), .sc (.slice none 0 0), .sc (.int .i64 0), .sc (.slice none 0 0)]]⟩])
    (fun s => s.1 ≤ f ∧ s.2.okC = true ∧ s.2.evI (f - s.1) s.1 = e.evI f 0) (fun s => f - s.1) (0, e) ⟨Nat.zero_le _, h, rfl⟩ (hat [0, 1] (hI := ⟨rfl, rfl⟩)) ?_
  rintro ⟨k, x⟩ ⟨hk, hx, hev⟩ G hG
  simp only [] at hk hx hev
  have hs := sStepCast x hx
  refine wg_run ?_
  cases hsc : x.sc with
  | took y =>
    rw [hsc] at hs
    simp only [scT, SC.tm, SC.code, SC.lab] at hs
    by_cases hkf : k = f
    · have hke : (((k : Nat) : Int) == (f : Int)) = true := by simp [hkf]
      have hz0 : f - k = 0 := by omega
      rw [hz0] at hev
      simp only [E.evI, hsc] at hev
      (simp only [go_sem, hke])
      repeat' (first | (first | (simp only [go_sem, int_bne, hke]) | (((first | refine sp1 ?_ ?_ | refine sp2 ?_ ?_ | refine sp3 ?_ ?_ | refine sp4 ?_ ?_ | refine sp5 ?_ ?_ | refine sp6 ?_ ?_ | refine sp7 ?_ ?_) <;> intro hb) <;> (simp only [go_sem, hb, int_bne, hke])) | ((first | refine wm_done ?_ | refine wt_done ?_ | refine wg_run ?_ | refine fk ?_ ?_) <;> (simp only [go_sem, int_bne, hke]))) | (first | refine cd (hc := hs) (hK := ?_) | refine cm (hc := hs) (hK := ?_) | refine ct (hc := hs) (hK := ?_)); (simp only [go_sem]) | fail)
      rw [← hev] at hR
      all_goals (refine hR _ ?_; refine rat [] (hK := ⟨rfl, rfl⟩))
    · have hke : (((k : Nat) : Int) == (f : Int)) = false := by simp; omega
      have hw1 := wrap_succ (k := k) (n := f) (by omega) (by omega)
      obtain ⟨m, hm⟩ : ∃ m, f - k = m + 1 := ⟨f - k - 1, by omega⟩
      rw [hm, E.evI_took hsc] at hev
      have hm2 : f - (k + 1) = m := by omega
      (simp only [go_sem, hke])
      repeat' (first | (first | (simp only [go_sem, int_bne, hke, hw1]) | (((first | refine sp1 ?_ ?_ | refine sp2 ?_ ?_ | refine sp3 ?_ ?_ | refine sp4 ?_ ?_ | refine sp5 ?_ ?_ | refine sp6 ?_ ?_ | refine sp7 ?_ ?_) <;> intro hb) <;> (simp only [go_sem, hb, int_bne, hke, hw1])) | ((first | refine wm_done ?_ | refine wt_done ?_ | refine wg_run ?_ | refine fk ?_ ?_) <;> (simp only [go_sem, int_bne, hke, hw1]))) | (first | refine cd (hc := hs) (hK := ?_) | refine cm (hc := hs) (hK := ?_) | refine ct (hc := hs) (hK := ?_)); (simp only [go_sem]) | fail)
      exact hG (k + 1, y) _ _ ⟨by show k + 1 ≤ f; omega, E.sc_ok hsc, by show y.evI (f - (k + 1)) (k + 1) = _; rw [hm2]; exact hev⟩ (by show f - (k + 1) < f - k; omega) (hat [0, 1] (hI := ⟨rfl, rfl⟩))
  | _ =>
    rw [E.evI_stop (fun y => by rw [hsc]; simp), hsc] at hev
    rw [← hev] at hR
    rw [hsc] at hs
    simp only [scT, SC.tm, SC.code, SC.lab] at hs
    (try simp only [tm0, noTy] at hs)
    (simp only [go_sem])
    repeat' (first | (first | (simp only [go_sem, int_bne]) | (((first | refine sp1 ?_ ?_ | refine sp2 ?_ ?_ | refine sp3 ?_ ?_ | refine sp4 ?_ ?_ | refine sp5 ?_ ?_ | refine sp6 ?_ ?_ | refine sp7 ?_ ?_) <;> intro hb) <;> (simp only [go_sem, hb, int_bne])) | ((first | refine wm_done ?_ | refine wt_done ?_ | refine wg_run ?_ | refine fk ?_ ?_) <;> (simp only [go_sem, int_bne]))) | (first | refine cd (hc := hs) (hK := ?_) | refine cm (hc := hs) (hK := ?_) | refine ct (hc := hs) (hK := ?_)); (simp only [go_sem]) | fail)
    all_goals (refine hR _ ?_; refine rat [] (hK := ⟨rfl, rfl⟩))
theorem iIsFuel (f : Int) : AFn Try.prog 55 [.one (.sc (.int .i64 f))] (.one (.sc (.bool (decide (0 ≤ f) && decide (f ≤ 300))))) := by
  have h := within f 0 300
  refine fn_in ?_; refine acl_in Try.func55 rfl isfn_55 (Nat.le_of_ble_eq_true rfl) (fun R hR => ?_); rw [Try.results55] at hR; refine wg_run ?_; (simp only [Try.f55, go_sem])
  repeat' (first | (first | (((first | refine sp1 ?_ ?_ | refine sp2 ?_ ?_ | refine sp3 ?_ ?_ | refine sp4 ?_ ?_ | refine sp5 ?_ ?_ | refine sp6 ?_ ?_ | refine sp7 ?_ ?_) <;> intro hb) <;> (simp only [go_sem, hb])) | ((first | refine wm_done ?_ | refine wt_done ?_ | refine wg_run ?_ | refine fk ?_ ?_) <;> (simp only [go_sem]))) | (first | refine cd (hc := h) (hK := ?_) | refine cm (hc := h) (hK := ?_) | refine ct (hc := h) (hK := ?_)); (simp only [go_sem]) | fail)
  all_goals (refine hR _ ?_; refine rat [] (hK := ⟨rfl, rfl⟩))
theorem iReach1 (t : Tm) : AFn Try.prog 57 [.agg (teC t)] (.tup []) := by
  refine fn_in ?_; refine acl_in Try.func57 rfl isfn_57 (Nat.le_of_ble_eq_true rfl) (fun R hR => ?_); rw [Try.results57] at hR; refine wg_run ?_; (simp only [Try.f57, go_sem])
  repeat' (first | (first | (((first | refine sp1 ?_ ?_ | refine sp2 ?_ ?_ | refine sp3 ?_ ?_ | refine sp4 ?_ ?_ | refine sp5 ?_ ?_ | refine sp6 ?_ ?_ | refine sp7 ?_ ?_) <;> intro hb) <;> (simp only [go_sem, hb])) | ((first | refine wm_done ?_ | refine wt_done ?_ | refine wg_run ?_ | refine fk ?_ ?_) <;> (simp only [go_sem]))) | fail)
  all_goals (refine hR _ ?_; refine rat [] (hK := ⟨rfl, rfl⟩))
theorem iCountSteps (t : Tm) (f : Int) : AFn Try.prog 16 [.agg (teC t), .one (.sc (.int .i64 f))] (.one (.sc (.int .i64 (t.countV f : Nat)))) := by
  have hf := iIsFuel f
  cases hb : (decide (0 ≤ f) && decide (f ≤ 300))
  · rw [hb] at hf
    rw [Tm.countV_off t hb]
    refine fn_in ?_; refine acl_in Try.func16 rfl isfn_16 (Nat.le_of_ble_eq_true rfl) (fun R hR => ?_); rw [Try.results16] at hR; refine wg_run ?_; (simp only [Try.f16, go_sem])
    repeat' (first | (first | (((first | refine sp1 ?_ ?_ | refine sp2 ?_ ?_ | refine sp3 ?_ ?_ | refine sp4 ?_ ?_ | refine sp5 ?_ ?_ | refine sp6 ?_ ?_ | refine sp7 ?_ ?_) <;> intro hb) <;> (simp only [go_sem, hb])) | ((first | refine wm_done ?_ | refine wt_done ?_ | refine wg_run ?_ | refine fk ?_ ?_) <;> (simp only [go_sem]))) | (first | refine cd (hc := hf) (hK := ?_) | refine cm (hc := hf) (hK := ?_) | refine ct (hc := hf) (hK := ?_)); (simp only [go_sem]) | fail)
    all_goals (refine hR _ ?_; refine rat [] (hK := ⟨rfl, rfl⟩))
  · rw [hb] at hf
    simp only [Bool.and_eq_true, decide_eq_true_eq] at hb
    cases hc : t.castV
    · have he := iEvalBad 57 iReach1 t hc f
      rw [Tm.countV_bad hc]
      simp only [evBad] at he
      refine fn_in ?_; refine acl_in Try.func16 rfl isfn_16 (Nat.le_of_ble_eq_true rfl) (fun R hR => ?_); rw [Try.results16] at hR; refine wg_run ?_; (simp only [Try.f16, go_sem])
      repeat' (first | (first | (((first | refine sp1 ?_ ?_ | refine sp2 ?_ ?_ | refine sp3 ?_ ?_ | refine sp4 ?_ ?_ | refine sp5 ?_ ?_ | refine sp6 ?_ ?_ | refine sp7 ?_ ?_) <;> intro hb) <;> (simp only [go_sem, hb])) | ((first | refine wm_done ?_ | refine wt_done ?_ | refine wg_run ?_ | refine fk ?_ ?_) <;> (simp only [go_sem]))) | (first | refine cd (hc := hf) (hK := ?_) | refine cm (hc := hf) (hK := ?_) | refine ct (hc := hf) (hK := ?_)); (simp only [go_sem]) | (first | refine cd (hc := he) (hK := ?_) | refine cm (hc := he) (hK := ?_) | refine ct (hc := he) (hK := ?_)); (simp only [go_sem]) | fail)
      all_goals (refine hR _ ?_; refine rat [] (hK := ⟨rfl, rfl⟩))
    · obtain ⟨e, rfl, ho⟩ := Tm.castV_E hc
      obtain ⟨n, rfl⟩ := Int.eq_ofNat_of_zero_le hb.1
      have he := iEvaluate 57 iReach1 e ho n (by omega)
      rw [Tm.countV_E ho n (by omega)]
      simp only [evT] at he
      refine fn_in ?_; refine acl_in Try.func16 rfl isfn_16 (Nat.le_of_ble_eq_true rfl) (fun R hR => ?_); rw [Try.results16] at hR; refine wg_run ?_; (simp only [Try.f16, go_sem])
      repeat' (first | (first | (((first | refine sp1 ?_ ?_ | refine sp2 ?_ ?_ | refine sp3 ?_ ?_ | refine sp4 ?_ ?_ | refine sp5 ?_ ?_ | refine sp6 ?_ ?_ | refine sp7 ?_ ?_) <;> intro hb) <;> (simp only [go_sem, hb])) | ((first | refine wm_done ?_ | refine wt_done ?_ | refine wg_run ?_ | refine fk ?_ ?_) <;> (simp only [go_sem]))) | (first | refine cd (hc := hf) (hK := ?_) | refine cm (hc := hf) (hK := ?_) | refine ct (hc := hf) (hK := ?_)); (simp only [go_sem]) | (first | refine cd (hc := he) (hK := ?_) | refine cm (hc := he) (hK := ?_) | refine ct (hc := he) (hK := ?_)); (simp only [go_sem]) | fail)
      all_goals (refine hR _ ?_; refine rat [] (hK := ⟨rfl, rfl⟩))
theorem sCountSteps (t : Tm) (hz : t.size < 4611686018427387904) (f : Int) : AFn Try.prog 14 [.agg (teC t), .one (.sc (.int .i64 f))] (.one (.sc (.int .i64 (t.countV f : Nat)))) := by
  cases hb : (decide (0 ≤ f) && decide (f ≤ 300))
  · rw [Tm.countV_off t hb]
    by_cases h0 : f < 0
    · have d0 : decide (f < 0) = true := by simpa using h0
      refine fn_in ?_; refine acl_in Try.func14 rfl isfn_14 (Nat.le_of_ble_eq_true rfl) (fun R hR => ?_); rw [Try.results14] at hR; refine wg_run ?_; (simp only [Try.f14, go_sem, d0])
      repeat' (first | (first | (simp only [go_sem, d0]) | (((first | refine sp1 ?_ ?_ | refine sp2 ?_ ?_ | refine sp3 ?_ ?_ | refine sp4 ?_ ?_ | refine sp5 ?_ ?_ | refine sp6 ?_ ?_ | refine sp7 ?_ ?_) <;> intro hb) <;> (simp only [go_sem, hb, d0])) | ((first | refine wm_done ?_ | refine wt_done ?_ | refine wg_run ?_ | refine fk ?_ ?_) <;> (simp only [go_sem, d0]))) | fail)
      all_goals (refine hR _ ?_; refine rat [] (hK := ⟨rfl, rfl⟩))
    · have d0 : decide (f < 0) = false := by simpa using h0
      have d1 : decide (f > 300) = true := by simp at hb; simp; omega
      refine fn_in ?_; refine acl_in Try.func14 rfl isfn_14 (Nat.le_of_ble_eq_true rfl) (fun R hR => ?_); rw [Try.results14] at hR; refine wg_run ?_; (simp only [Try.f14, go_sem, d0, d1])
      repeat' (first | (first | (simp only [go_sem, d0, d1]) | (((first | refine sp1 ?_ ?_ | refine sp2 ?_ ?_ | refine sp3 ?_ ?_ | refine sp4 ?_ ?_ | refine sp5 ?_ ?_ | refine sp6 ?_ ?_ | refine sp7 ?_ ?_) <;> intro hb) <;> (simp only [go_sem, hb, d0, d1])) | ((first | refine wm_done ?_ | refine wt_done ?_ | refine wg_run ?_ | refine fk ?_ ?_) <;> (simp only [go_sem, d0, d1]))) | fail)
      all_goals (refine hR _ ?_; refine rat [] (hK := ⟨rfl, rfl⟩))
  · simp only [Bool.and_eq_true, decide_eq_true_eq] at hb
    have d0 : decide (f < 0) = false := by simp; omega
    have d1 : decide (f > 300) = false := by simp; omega
    cases hc : t.castV
    · have he := sEvalBad t hc hz f
      rw [Tm.countV_bad hc]
      simp only [evBad] at he
      refine fn_in ?_; refine acl_in Try.func14 rfl isfn_14 (Nat.le_of_ble_eq_true rfl) (fun R hR => ?_); rw [Try.results14] at hR; refine wg_run ?_; (simp only [Try.f14, go_sem, d0, d1])
      repeat' (first | (first | (simp only [go_sem, d0, d1]) | (((first | refine sp1 ?_ ?_ | refine sp2 ?_ ?_ | refine sp3 ?_ ?_ | refine sp4 ?_ ?_ | refine sp5 ?_ ?_ | refine sp6 ?_ ?_ | refine sp7 ?_ ?_) <;> intro hb) <;> (simp only [go_sem, hb, d0, d1])) | ((first | refine wm_done ?_ | refine wt_done ?_ | refine wg_run ?_ | refine fk ?_ ?_) <;> (simp only [go_sem, d0, d1]))) | (first | refine cd (hc := he) (hK := ?_) | refine cm (hc := he) (hK := ?_) | refine ct (hc := he) (hK := ?_)); (simp only [go_sem]) | fail)
      all_goals (refine hR _ ?_; refine rat [] (hK := ⟨rfl, rfl⟩))
    · obtain ⟨e, rfl, ho⟩ := Tm.castV_E hc
      obtain ⟨n, rfl⟩ := Int.eq_ofNat_of_zero_le hb.1
      have he := sEval e ho n (by omega)
      rw [Tm.countV_E ho n (by omega)]
      simp only [evS] at he
      refine fn_in ?_; refine acl_in Try.func14 rfl isfn_14 (Nat.le_of_ble_eq_true rfl) (fun R hR => ?_); rw [Try.results14] at hR; refine wg_run ?_; (simp only [Try.f14, go_sem, d0, d1])
      repeat' (first | (first | (simp only [go_sem, d0, d1]) | (((first | refine sp1 ?_ ?_ | refine sp2 ?_ ?_ | refine sp3 ?_ ?_ | refine sp4 ?_ ?_ | refine sp5 ?_ ?_ | refine sp6 ?_ ?_ | refine sp7 ?_ ?_) <;> intro hb) <;> (simp only [go_sem, hb, d0, d1])) | ((first | refine wm_done ?_ | refine wt_done ?_ | refine wg_run ?_ | refine fk ?_ ?_) <;> (simp only [go_sem, d0, d1]))) | (first | refine cd (hc := he) (hK := ?_) | refine cm (hc := he) (hK := ?_) | refine ct (hc := he) (hK := ?_)); (simp only [go_sem]) | fail)
      all_goals (refine hR _ ?_; refine rat [] (hK := ⟨rfl, rfl⟩))
end Go.Proofs.Ytnaebafafhamjaa
/- StepCast and EvalCast at terms as they come. No program, no world. -/
namespace Go.Proofs.Grad
noncomputable def Tm.stepV (t : Tm) : SC := by
  classical
  exact if h : t.castV = true then (Classical.choose (Tm.castV_E h)).sc else .stuck
theorem Tm.stepV_E {e : E} (h : e.okC = true) : e.tm.stepV = e.sc := by
  have h' : e.tm.castV = true := by rw [E.castV_tm]; exact h
  unfold Tm.stepV
  rw [dif_pos h', E.tm_inj _ _ (Classical.choose_spec (Tm.castV_E h')).1]
theorem Tm.stepV_bad {t : Tm} (h : t.castV = false) : t.stepV = .stuck := by unfold Tm.stepV; rw [dif_neg (by simp [h])]
noncomputable def Tm.evalV (t : Tm) (f : Int) : SC := by
  classical
  exact if h : t.castV = true then (match decide (0 ≤ f) && decide (f ≤ 300) with | true => ((Classical.choose (Tm.castV_E h)).evI f.toNat 0).1 | false => .stuck) else .stuck
theorem Tm.evalV_E {e : E} (h : e.okC = true) (f : Nat) (hf : f ≤ 300) : e.tm.evalV f = (e.evI f 0).1 := by
  have h' : e.tm.castV = true := by rw [E.castV_tm]; exact h
  unfold Tm.evalV
  rw [dif_pos h', E.tm_inj _ _ (Classical.choose_spec (Tm.castV_E h')).1]
  have : (decide ((0 : Int) ≤ (f : Int)) && decide ((f : Int) ≤ 300)) = true := by simp; omega
  rw [this]
  rfl
theorem Tm.evalV_bad {t : Tm} (h : t.castV = false) (f : Int) : t.evalV f = .stuck := by unfold Tm.evalV; rw [dif_neg (by simp [h])]
theorem Tm.evalV_off (t : Tm) {f : Int} (h : (decide (0 ≤ f) && decide (f ≤ 300)) = false) : t.evalV f = .stuck := by
  unfold Tm.evalV; split
  · rw [h]
  · rfl
end Go.Proofs.Grad
/- StepCast and EvalCast at terms as they come, in the program and in the reference. On shadows. -/
namespace Go.Proofs.Ytnaebafafhamjaa
open Go.RowKit Go.Proofs.Sh Go.Proofs.Grad
set_option maxRecDepth 100000
set_option maxHeartbeats 8000000
def ecT (r : SC) : AV := .tup [.agg (teC r.etm), .one (.sc (.int .i64 r.ecode)), .one (.sc (.int .i64 r.lab))]
theorem iStepV (t : Tm) : AFn Try.prog 26 [.agg (teC t)] (scT t.stepV) := by
  cases hc : t.castV
  · rw [Tm.stepV_bad hc]; exact iStepBad t hc
  · obtain ⟨e, rfl, ho⟩ := Tm.castV_E hc
    rw [Tm.stepV_E ho]; exact iStepCast e ho
theorem sStepV (t : Tm) (hz : t.size < 4611686018427387904) : AFn Try.prog 25 [.agg (teC t)] (scT t.stepV) := by
  cases hc : t.castV
  · rw [Tm.stepV_bad hc]; exact sStepBad t hc hz
  · obtain ⟨e, rfl, ho⟩ := Tm.castV_E hc
    rw [Tm.stepV_E ho]; exact sStepCast e ho
end Go.Proofs.Ytnaebafafhamjaa
/- Owned trees: rows changed where they lie. -/
namespace Go.Proofs.Sh
def dgs (k : Nat) (out : ByteArray) : ByteArray := if h : k = 0 then out else dgs (k / 10) (bytesOf [((48 + k % 10 : Nat) : Int)] ++ out)
termination_by k
decreasing_by omega
theorem dgs_zero (out : ByteArray) : dgs 0 out = out := by rw [dgs]; simp
theorem dgs_pos {k : Nat} (h : 0 < k) (out : ByteArray) : dgs k out = dgs (k / 10) (bytesOf [((48 + k % 10 : Nat) : Int)] ++ out) := by
  rw [dgs, dif_neg (by omega)]
def mkT (k : Nat) : ByteArray := ⟨#[109]⟩ ++ dgs k ByteArray.empty
end Go.Proofs.Sh
namespace Go.Proofs.Sh
open Go.RowKit Go.Proofs.Grad

/-- a row of an owned slice, and what is so when it has been changed -/
theorem row_upd {h : List Blk} {d s b n i : Nat} {R : List (List C)} {js : List Nat} (h0 : ow h (d + 1) (.row s b n) = some (.sl R, b :: js)) (hn : (b :: js).Nodup) (hi : i < R.length) :
    ∃ ty rows r E pre is post, h[b]? = some ⟨s, ty, .mut, rows⟩ ∧ rows.length = n ∧ R.length = n ∧ rows[i]? = some r ∧ R[i]? = some E ∧ r.length = s ∧ fzL (ow h d) r = some (E, is) ∧ js = pre ++ (is ++ post) ∧ is.Nodup ∧ b ∉ is ∧ (∀ x ∈ pre ++ post, x ∉ is ∧ x ≠ b) ∧
      (∀ h2 r' E', r'.length = s → h2[b]? = some ⟨s, ty, .mut, rows.set i r'⟩ → fzL (ow h2 d) r' = some (E', is) → (∀ x ∈ pre ++ post, h2[x]? = h[x]?) → ow h2 (d + 1) (.row s b n) = some (.sl (R.set i E'), b :: js)) := by
  obtain ⟨d', k, R', js', e, h1, h2, h3, h4, h5, h6, h7, h8⟩ := ow_row h0
  cases e; cases h7; cases h8
  obtain ⟨ks, kty, kst, rows⟩ := k
  simp only at h2 h3 h4 h5 h6
  have hst : kst = .mut := by cases kst <;> simp [St.isMut] at h2 ⊢
  subst hst h4
  have hl := fzRows_len h6
  have hir : i < rows.length := by omega
  obtain ⟨E, pre, is, post, q1, q2, q3, q4, q5⟩ := fzRows_split h6 (List.getElem?_eq_getElem hir)
  obtain ⟨hb, hjs⟩ := List.nodup_cons.1 hn
  have hjs' := hjs
  rw [q3] at hjs' hb
  obtain ⟨a1, a2, a3⟩ := List.nodup_append.1 hjs'
  obtain ⟨a4, a5, a6⟩ := List.nodup_append.1 a2
  refine ⟨kty, rows, rows[i], E, pre, is, post, h1, h3, by omega, List.getElem?_eq_getElem hir, q1, rowsLen_spec h5 _ (List.getElem_mem hir), q2, q3, a4, fun hm => hb (by simp [hm]), fun x hx => ⟨fun hm => ?_, fun e => hb (by subst e; rcases List.mem_append.1 hx with hx | hx <;> simp [hx])⟩, fun h2' r' E' hr hb he hx => ?_⟩
  · rcases List.mem_append.1 hx with hx | hx
    · exact a3 x hx x (by simp [hm]) rfl
    · exact a6 x hm x hx rfl
  · refine ow_row_of hb rfl (by simp [h3]) rfl ?_ ?_
    · simp only [rowsLen, List.all_eq_true, beq_iff_eq]
      intro x hx
      rcases List.mem_or_eq_of_mem_set hx with hx | rfl
      · exact rowsLen_spec h5 x hx
      · exact hr
    · rw [q3]
      exact fzRows_set hir hl (owR_frame q4 (fun x hx' => hx x (by simp [hx']))) he (owR_frame q5 (fun x hx' => hx x (by simp [hx'])))
theorem owR_lt {h : List Blk} {d s b n : Nat} {c' : C} {js : List Nat} (h0 : ow h d (.row s b n) = some (c', b :: js)) (x : Nat) (hx : x ∈ js) : x < h.length := (ow_mut h0 x (by simp [hx])).lt
end Go.Proofs.Sh
namespace Go.Proofs.Grad
mutual
def Ty.mark : Ty → Nat → Ty
  | .mk _ l, k => .mk (k : Int) (Ty.marks l (k + 1))
def Ty.marks : List Ty → Nat → List Ty
  | [], _ => []
  | t :: l, k => t.mark k :: Ty.marks l (k + t.size)
end
theorem Ty.mark_eq (t : Ty) (k : Nat) : t.mark k = .mk (k : Int) (Ty.marks t.kids (k + 1)) := by cases t; rfl
theorem Ty.marks_append : ∀ (l m : List Ty) (k : Nat), Ty.marks (l ++ m) k = Ty.marks l k ++ Ty.marks m (k + Ty.sizes l)
  | [], m, k => by simp [Ty.marks, Ty.sizes]
  | t :: l, m, k => by simp only [List.cons_append, Ty.marks, Ty.sizes, Ty.marks_append l m, Nat.add_assoc]
theorem Ty.marks_length : ∀ (l : List Ty) (k : Nat), (Ty.marks l k).length = l.length
  | [], _ => rfl
  | t :: l, k => by simp [Ty.marks, Ty.marks_length l]
theorem Ty.sizes_append : ∀ (l m : List Ty), Ty.sizes (l ++ m) = Ty.sizes l + Ty.sizes m
  | [], m => by simp [Ty.sizes]
  | t :: l, m => by simp only [List.cons_append, Ty.sizes, Ty.sizes_append l m, Nat.add_assoc]
/-- a list of which the first i are marked -/
def Ty.part (l : List Ty) (k i : Nat) : List Ty := Ty.marks (l.take i) k ++ l.drop i
theorem Ty.part_length (l : List Ty) (k i : Nat) : (Ty.part l k i).length = l.length := by
  simp only [Ty.part, List.length_append, Ty.marks_length, List.length_take, List.length_drop]; omega
end Go.Proofs.Grad
namespace Go.Proofs.Sh
open Go.RowKit Go.Proofs.Grad
theorem Ty.part_get {l : List Ty} {k i : Nat} (h : i < l.length) : (Ty.part l k i)[i]? = some (kid l i) := by
  have hl : (Ty.marks (l.take i) k).length = i := by rw [Ty.marks_length, List.length_take]; omega
  rw [Ty.part, List.getElem?_append_right (by omega), hl, Nat.sub_self, drop_kid h]; rfl
theorem Ty.part_set {l : List Ty} {k i : Nat} (h : i < l.length) : (Ty.part l k i).set i ((kid l i).mark (k + Ty.sizes (l.take i))) = Ty.part l k (i + 1) := by
  have hl : (Ty.marks (l.take i) k).length = i := by rw [Ty.marks_length, List.length_take]; omega
  rw [Ty.part, List.set_append_right _ _ (by omega), hl, Nat.sub_self, drop_kid h, Ty.part, take_kid h, Ty.marks_append]
  simp [Ty.marks]
theorem Ty.sizes_take {l : List Ty} {i : Nat} (h : i < l.length) : Ty.sizes (l.take (i + 1)) = Ty.sizes (l.take i) + (kid l i).size := by
  rw [take_kid h, Ty.sizes_append]; simp [Ty.sizes]
theorem tyR_set (l : List Ty) (i : Nat) (t : Ty) : (tyR l).set i (tyC t) = tyR (l.set i t) := by
  induction l generalizing i with
  | nil => rfl
  | cons x l ih => cases i <;> simp [tyR, ih]
theorem Ty.sizes_take_le (l : List Ty) (i : Nat) : Ty.sizes (l.take i) ≤ Ty.sizes l := by
  have := Ty.sizes_append (l.take i) (l.drop i)
  rw [List.take_append_drop] at this; omega
end Go.Proofs.Sh
namespace Go.Proofs.Grad
open Go.Proofs.Sh
theorem Ty.marks_nodes : ∀ (l : List Ty) (k : Nat), Ty.sizes (Ty.marks l k) = Ty.sizes l
  | [], _ => rfl
  | .mk _ a :: l, k => by simp only [Ty.marks, Ty.mark, Ty.sizes, Ty.size, Ty.marks_nodes a, Ty.marks_nodes l]
mutual
/-- how many marks a term takes -/
def Tm.mw : Tm → Nat
  | .mk _ _ _ t f _ l => 6 + (Ty.sizes t.kids + (Ty.sizes f.kids + Tm.mws l))
def Tm.mws : List Tm → Nat
  | [] => 0
  | t :: l => t.mw + Tm.mws l
end
mutual
def Tm.mark : Tm → Nat → Tm
  | .mk _ _ _ t f _ l, k => .mk (k : Int) (mkT (k + 1)) ((k + 2 : Nat) : Int) (.mk ((k + 3 : Nat) : Int) (Ty.marks t.kids (k + 4))) (.mk ((k + 4 + Ty.sizes t.kids : Nat) : Int) (Ty.marks f.kids (k + 4 + Ty.sizes t.kids + 1)))
      ((k + 4 + Ty.sizes t.kids + 1 + Ty.sizes f.kids : Nat) : Int) (Tm.marks l (k + 4 + Ty.sizes t.kids + 1 + Ty.sizes f.kids + 1))
def Tm.marks : List Tm → Nat → List Tm
  | [], _ => []
  | t :: l, k => t.mark k :: Tm.marks l (k + t.mw)
end
theorem Tm.mark_eq (t : Tm) (k : Nat) : t.mark k = .mk (k : Int) (mkT (k + 1)) ((k + 2 : Nat) : Int) (.mk ((k + 3 : Nat) : Int) (Ty.marks t.type.kids (k + 4))) (.mk ((k + 4 + Ty.sizes t.type.kids : Nat) : Int) (Ty.marks t.frm.kids (k + 4 + Ty.sizes t.type.kids + 1)))
      ((k + 4 + Ty.sizes t.type.kids + 1 + Ty.sizes t.frm.kids : Nat) : Int) (Tm.marks t.kids (k + 4 + Ty.sizes t.type.kids + 1 + Ty.sizes t.frm.kids + 1)) := by cases t; rfl
theorem Tm.mw_eq (t : Tm) : t.mw = 6 + (Ty.sizes t.type.kids + (Ty.sizes t.frm.kids + Tm.mws t.kids)) := by cases t; rfl
theorem Tm.marks_append : ∀ (l m : List Tm) (k : Nat), Tm.marks (l ++ m) k = Tm.marks l k ++ Tm.marks m (k + Tm.mws l)
  | [], m, k => by simp [Tm.marks, Tm.mws]
  | t :: l, m, k => by simp only [List.cons_append, Tm.marks, Tm.mws, Tm.marks_append l m, Nat.add_assoc]
theorem Tm.marks_length : ∀ (l : List Tm) (k : Nat), (Tm.marks l k).length = l.length
  | [], _ => rfl
  | t :: l, k => by simp [Tm.marks, Tm.marks_length l]
theorem Tm.mws_append : ∀ (l m : List Tm), Tm.mws (l ++ m) = Tm.mws l + Tm.mws m
  | [], m => by simp [Tm.mws]
  | t :: l, m => by simp only [List.cons_append, Tm.mws, Tm.mws_append l m, Nat.add_assoc]
def Tm.part (l : List Tm) (k i : Nat) : List Tm := Tm.marks (l.take i) k ++ l.drop i
theorem Tm.part_length (l : List Tm) (k i : Nat) : (Tm.part l k i).length = l.length := by
  simp only [Tm.part, List.length_append, Tm.marks_length, List.length_take, List.length_drop]; omega
theorem Tm.part_get {l : List Tm} {k i : Nat} (h : i < l.length) : (Tm.part l k i)[i]? = some (teKid l i) := by
  have hl : (Tm.marks (l.take i) k).length = i := by rw [Tm.marks_length, List.length_take]; omega
  rw [Tm.part, List.getElem?_append_right (by omega), hl, Nat.sub_self, tedrop_kid h]; rfl
theorem Tm.part_set {l : List Tm} {k i : Nat} (h : i < l.length) : (Tm.part l k i).set i ((teKid l i).mark (k + Tm.mws (l.take i))) = Tm.part l k (i + 1) := by
  have hl : (Tm.marks (l.take i) k).length = i := by rw [Tm.marks_length, List.length_take]; omega
  rw [Tm.part, List.set_append_right _ _ (by omega), hl, Nat.sub_self, tedrop_kid h, Tm.part, tetake_kid h, Tm.marks_append]
  simp [Tm.marks]
theorem Tm.mws_take {l : List Tm} {i : Nat} (h : i < l.length) : Tm.mws (l.take (i + 1)) = Tm.mws (l.take i) + (teKid l i).mw := by
  rw [tetake_kid h, Tm.mws_append]; simp [Tm.mws]
theorem Tm.mws_take_le (l : List Tm) (i : Nat) : Tm.mws (l.take i) ≤ Tm.mws l := by
  have := Tm.mws_append (l.take i) (l.drop i)
  rw [List.take_append_drop] at this; omega
theorem Tm.len_mws : ∀ l : List Tm, l.length ≤ Tm.mws l
  | [] => Nat.le_refl _
  | t :: l => by have := Tm.len_mws l; have := t.mw_eq; simp only [List.length_cons, Tm.mws]; omega
end Go.Proofs.Grad
namespace Go.Proofs.Sh
open Go.RowKit Go.Proofs.Grad
theorem teR_set (l : List Tm) (i : Nat) (t : Tm) : (teR l).set i (teC t) = teR (l.set i t) := by
  induction l generalizing i with
  | nil => rfl
  | cons x l ih => cases i <;> simp [teR, ih]
end Go.Proofs.Sh
/- Owned trees behind known blocks: calls that make, read and mark them. -/
namespace Go.Proofs.Sh
open Go.RowKit Go.Proofs.Grad

/-- a struct's cells, a tree owned in T, which lies behind p blocks -/
structure OwnT (p : Nat) (T : List Blk) (cs enc : List C) (ids : List Nat) : Prop where
  nodup : ids.Nodup
  ge : ∀ b ∈ ids, p ≤ b
  own : ∃ d, ∀ pre : List Blk, pre.length = p → fzL (ow (pre ++ T) d) cs = some (enc, ids)
theorem OwnT.lt {p : Nat} {T : List Blk} {cs enc : List C} {ids : List Nat} (h : OwnT p T cs enc ids) : ∀ b ∈ ids, b < T.length + p := fun b hb => by
  obtain ⟨d, hd⟩ := h.own
  have := (owL_mut (hd (List.replicate p ⟨0, 0, .dead, []⟩) (by simp)) b hb).lt
  simp only [List.length_append, List.length_replicate] at this; omega
theorem OwnT.len {p : Nat} {T : List Blk} {cs enc : List C} {ids : List Nat} (h : OwnT p T cs enc ids) : cs.length = enc.length := by
  obtain ⟨d, hd⟩ := h.own
  exact (fzL_len (hd (List.replicate p ⟨0, 0, .dead, []⟩) (by simp))).symm
theorem OwnT.ext {p : Nat} {T T' : List Blk} {cs enc : List C} {ids : List Nat} (h : OwnT p T cs enc ids) (hf : ∀ i, i < T.length → i + p ∈ ids → T'[i]? = T[i]?) : OwnT p T' cs enc ids := by
  refine ⟨h.nodup, h.ge, ?_⟩
  obtain ⟨d, hd⟩ := h.own
  refine ⟨d, fun pre hp => owL_frame (hd pre hp) (fun b hb => ?_)⟩
  have h1 := h.ge b hb
  have h2 := h.lt b hb
  rw [List.getElem?_append_right (by omega), List.getElem?_append_right (by omega), hp]
  exact hf _ (by omega) (by rw [Nat.sub_add_cancel h1]; exact hb)
theorem OwnT.app {p : Nat} {T : List Blk} {cs enc : List C} {ids : List Nat} (h : OwnT p T cs enc ids) (X : List Blk) : OwnT p (T ++ X) cs enc ids := h.ext (fun i hi _ => List.getElem?_append_left hi)
theorem OwnT.lent {p : Nat} {T pre : List Blk} {cs enc : List C} {ids : List Nat} (h : OwnT p T cs enc ids) (hp : pre.length = p) : Lent (pre ++ T) (.agg cs) (.agg enc) ids := by
  obtain ⟨d, hd⟩ := h.own
  exact .agg (hd pre hp)

/-- a call that yields an owned tree -/
theorem acalls_ownT {P : Program} {f : FuncId} {args args' : List AV} {p : Nat} {pre T : List Blk} {is : List Nat} {enc : List C} {F : List C → AV} (hp : pre.length = p) (hz : Lents (pre ++ T) args args' is) (hc : ACl P f args' [] (OwnK enc F)) (hF : ∀ cs, cs.all C.flat = true → (F cs).flat = true) (hR : ∀ cs g, (F cs).ren g = F (cs.map (C.ren g))) :
    ACalls P f args (pre ++ T) [] (fun r h' => ∃ cs T' ids, r = F cs ∧ h' = pre ++ T' ∧ T.length ≤ T'.length ∧ (∀ i, i < T.length → T'[i]? = T[i]?) ∧ OwnT p T' cs enc ids ∧ ∀ b ∈ ids, T.length + p ≤ b) := by
  refine (acalls_own hz hc hF hR).mono ?_
  rintro r h' ⟨cs, d, ids, rfl, e1, e2, e3, e4, e5⟩
  obtain ⟨T', rfl, f1, f2⟩ := pre_split pre e4 e5
  have hge : ∀ b ∈ ids, T.length + p ≤ b := fun b hb => by have := (e3 b hb).1; simp only [List.length_append] at this; omega
  refine ⟨cs, T', ids, rfl, rfl, f1, f2, ⟨e2, fun b hb => by have := hge b hb; omega, d, fun pre' hp' => ?_⟩, hge⟩
  exact owL_pre (by omega) (fun _ _ => rfl) e1 (fun b hb => by have := hge b hb; omega)
/-- a call that reads owned trees -/
theorem acalls_readT {P : Program} {f : FuncId} {args args' : List AV} {h : List Blk} {is : List Nat} {v : Value} (hz : Lents h args args' is) (hc : AFn P f args' (.one (.sc v))) : ACalls P f args h [] (fun r' h' => r' = .one (.sc v) ∧ h' = h) :=
  acalls_read hz hc rfl (fun _ => rfl)
/-- a call that changes an owned tree -/
theorem acalls_changeT {P : Program} {f : FuncId} {args : List AV} {p : Nat} {pre T : List Blk} {cs enc : List C} {ids : List Nat} {v : Value} (hp : pre.length = p) (hge : ∀ b ∈ ids, p ≤ b) (hn : ids.Nodup)
    (hc : ∃ d, ACl P f args (pre ++ T) (fun r h' => r = .one (.sc v) ∧ fzL (ow h' d) cs = some (enc, ids) ∧ (pre ++ T).length ≤ h'.length ∧ ∀ b, b < (pre ++ T).length → b ∉ ids → h'[b]? = (pre ++ T)[b]?)) :
    ∃ ks, ACalls P f args (pre ++ T) ks (fun r h' => ∃ T', r = .one (.sc v) ∧ h' = pre ++ T' ∧ T.length ≤ T'.length ∧ (∀ i, i < T.length → i + p ∉ ids → T'[i]? = T[i]?) ∧ OwnT p T' cs enc ids) := by
  obtain ⟨d, hc⟩ := hc
  refine ⟨_, (acalls_full hc).mono ?_⟩
  rintro r h' ⟨rfl, e1, e2, e3⟩
  have hh : h' = pre ++ h'.drop pre.length := by
    apply List.ext_getElem?
    intro i
    by_cases hi : i < pre.length
    · rw [e3 i (by simp only [List.length_append]; omega) (fun hm => by have := hge i hm; omega), List.getElem?_append_left hi, List.getElem?_append_left hi]
    · rw [List.getElem?_append_right (by omega), List.getElem?_drop]; congr 1; omega
  refine ⟨h'.drop pre.length, rfl, hh, by simp only [List.length_append, List.length_drop] at *; omega, fun i hi hm => ?_, hn, hge, d, fun pre' hp' => ?_⟩
  · rw [List.getElem?_drop, e3 _ (by simp only [List.length_append]; omega) (by rw [hp, Nat.add_comm]; exact hm), List.getElem?_append_right (by omega)]
    congr 1; omega
  · rw [hh] at e1
    exact owL_pre (by omega) (fun _ _ => rfl) e1 (fun b hb => by have := hge b hb; omega)
theorem wm_at {P : Program} {N : Nat} {R : ASt → Prop} {c : MC} {k : List Item} {f : FuncId} {args : List AV} {o : Oper} {l : List Oper} {U : List Nat} {ok : Bool} {s : ASt} {ks : List Nat} {K' : AV → List Blk → Prop} {h0 : List Blk} (hc : ACalls P f args h0 ks K') (hok : ((ok && ks.all c.ms.contains) || decide (l.length < c.f)) = true)
    (hmut : c.ms.all (fun b => match c.h0[b]? with | some k => k.st.isMut | none => false) = true) (hs : h0 = s.h)
    (hK : ∀ r h', K' r h' → WM P N c R k (mrun P c l (addU o.dst U) (ok && ks.all c.ms.contains) (ASt.put ⟨s.n, s.t, h'⟩ o.dst r))) : WM P N c R k (.call f args o l U ok s) := by
  subst hs
  exact wm_any hc hok hmut hK
/-- a list of terms' marks are few -/
theorem _root_.Go.Proofs.Grad.Ty.sizes_kids (t : Ty) : Ty.sizes t.kids < t.size := by cases t; simp only [Ty.size, Ty.kids]; omega
end Go.Proofs.Sh
namespace Go.Proofs.Grad
mutual
theorem Tm.mw_le : ∀ t : Tm, t.mw ≤ 6 * t.size
  | .mk k n m t f l a => by
    have h1 := Ty.sizes_kids t; have h2 := Ty.sizes_kids f; have h3 := Tm.mws_le a
    simp only [Tm.mw, Tm.size]; omega
theorem Tm.mws_le : ∀ l : List Tm, Tm.mws l ≤ 6 * Tm.sizes l
  | [] => Nat.le_refl _
  | t :: l => by have h1 := Tm.mw_le t; have h2 := Tm.mws_le l; simp only [Tm.mws, Tm.sizes]; omega
end
end Go.Proofs.Grad
/- Steps and evaluation whose results are owned. On shadows. -/
namespace Go.Proofs.Ytnaebafafhamjaa
open Go.RowKit Go.Proofs.Sh Go.Proofs.Grad
set_option maxRecDepth 100000
set_option maxHeartbeats 8000000
theorem tm0_own (h : List Blk) (d : Nat) : fzL (ow h d) (teC tm0) = some (teC tm0, []) := by
  simp only [tm0, noTy, teC, tyR, teR, Ty.kind, Ty.kids, fzL, ow_int, ow_str]
  rw [ow_leaf (by simp)]
  rfl
theorem own_zero {P : Program} {f : FuncId} {args : List AV} {F : List C → AV} (h : AFn P f args (F (teC tm0))) : ACl P f args [] (OwnK (teC tm0) F) :=
  h.cl.mono fun r H' ⟨e1, e2⟩ => by subst e1 e2; exact ⟨teC tm0, 0, [], rfl, tm0_own _ _, List.nodup_nil, by simp⟩
/-- a term's cells, and two numbers -/
def tupF (a b : Int) (cs : List C) : AV := .tup [.agg cs, .one (.sc (.int .i64 a)), .one (.sc (.int .i64 b))]
theorem tupF_flat (a b : Int) (cs : List C) (h : cs.all C.flat = true) : (tupF a b cs).flat = true := by
  simp only [tupF, AV.flat, AV.flats, h, C.flat, Bool.and_true]
theorem tupF_ren (a b : Int) (cs : List C) (g : Nat → Nat) : (tupF a b cs).ren g = tupF a b (cs.map (C.ren g)) := by
  simp only [tupF, AV.ren, AV.renL, renA_map, C.ren]
theorem prVs_tupF {a b : Int} {h : List Blk} {ids : List Nat} {cs cs' : List C} (e : prL false h ids cs = some (cs', [])) : prVs false h ids [tupF a b cs] = some ([tupF a b cs'], []) := by
  simp only [tupF, prVs, prV, e, prC, List.append_nil]
theorem sc_small {e : E} (h : e.okC = true) : e.sc.tm.size < 100000000 := by
  unfold E.sc
  split
  · exact okC_small h
  · split
    · split
      · rename_i hx; exact okC_small hx
      · simp [SC.tm, tm0, noTy, Tm.size, Ty.size, Ty.sizes, Tm.sizes]
    · simp [SC.tm, tm0, noTy, Tm.size, Ty.size, Ty.sizes, Tm.sizes]
    · simp [SC.tm, tm0, noTy, Tm.size, Ty.size, Ty.sizes, Tm.sizes]
theorem stepV_small (t : Tm) : t.stepV.tm.size < 100000000 := by
  cases hc : t.castV
  · rw [Tm.stepV_bad hc]; simp [SC.tm, tm0, noTy, Tm.size, Ty.size, Ty.sizes, Tm.sizes]
  · obtain ⟨e, rfl, h⟩ := Tm.castV_E hc
    rw [Tm.stepV_E h]; exact sc_small h
theorem iStepO (t : Tm) : ACl Try.prog 26 [.agg (teC t)] [] (OwnK (teC t.stepV.tm) (tupF t.stepV.code t.stepV.lab)) := by
  cases hc : t.castV
  · have h := iStepV t
    rw [Tm.stepV_bad hc] at h ⊢
    exact own_zero h
  · obtain ⟨e, rfl, h⟩ := Tm.castV_E hc
    have hA := iStepCast e h
    rw [Tm.stepV_E h]
    have hz := okC_small h
    have hv := iCastV e.tm
    rw [E.castV_tm, h] at hv
    have hval := iIsVal 100000000 (by omega) e.tm hz
    rw [E.val_tm] at hval
    simp only [E.okC, Bool.and_eq_true] at h
    have ho := iOwnO e.tm (by omega)
    unfold E.sc at hA ⊢
    cases ev : e.val
    · rw [ev] at hval hA
      have hs := iStep e h.1 h.2.1 ev hz
      simp only [stT] at hs
      simp only [] at hA ⊢
      cases es : e.step with
      | took x =>
        rw [E.so_took e x ev es, es] at hs
        rw [es] at hA
        obtain ⟨xw, xn⟩ := E.step_wf h.1 h.2.1 es
        have hv2 := iCastV x.tm
        rw [E.castV_tm] at hv2
        simp only [SR.code, SR.lab] at hs
        simp only [] at hA ⊢
        cases eo : x.okC
        · rw [eo] at hA
          exact own_zero hA
        · rw [eo] at hv2
          have ho2 := iOwnO x.tm (by have := okC_small eo; omega)
          simp only [SC.tm, SC.code, SC.lab]
          refine acl_in Try.func26 rfl isfn_26 (Nat.le_of_ble_eq_true rfl) (fun R hR => ?_); rw [Try.results26] at hR; refine wg_run ?_; (simp only [Try.f26, go_sem])
          repeat' (first | (first | (simp only [go_sem, int_bne]) | (((first | refine sp1 ?_ ?_ | refine sp2 ?_ ?_ | refine sp3 ?_ ?_ | refine sp4 ?_ ?_ | refine sp5 ?_ ?_ | refine sp6 ?_ ?_ | refine sp7 ?_ ?_) <;> intro hb) <;> (simp only [go_sem, hb, int_bne])) | ((first | refine wm_done ?_ | refine wt_done ?_ | refine wg_run ?_ | refine fk ?_ ?_) <;> (simp only [go_sem, int_bne]))) | (first | refine cd (hc := hv) (hK := ?_) | refine cm (hc := hv) (hK := ?_) | refine ct (hc := hv) (hK := ?_)); (simp only [go_sem]) | (first | refine cd (hc := hval) (hK := ?_) | refine cm (hc := hval) (hK := ?_) | refine ct (hc := hval) (hK := ?_)); (simp only [go_sem]) | (first | refine cd (hc := hs) (hK := ?_) | refine cm (hc := hs) (hK := ?_) | refine ct (hc := hs) (hK := ?_)); (simp only [go_sem]) | (first | refine cd (hc := hv2) (hK := ?_) | refine cm (hc := hv2) (hK := ?_) | refine ct (hc := hv2) (hK := ?_)); (simp only [go_sem]) | fail)
          refine wd_any (acalls_own (.cons (.same (by (simp only [go_sem]); first | done | rfl)) .nil) ho2 (fun _ h => h) ren_agg) ?_
          rintro _ h' ⟨cs, d, ids, rfl, e1, e2, e3, e4, e5⟩
          obtain ⟨T, rfl, f1, f2⟩ := pre3 e4 e5
          have hcs : cs.length = 9 := by rw [← fzL_len e1, teC_length]
          have htk : cs.take 9 = cs := List.take_of_length_le (by omega)
          (simp only [go_sem, hcs])
          repeat' (first | (first | (simp only [go_sem, hcs]) | (((first | refine sp1 ?_ ?_ | refine sp2 ?_ ?_ | refine sp3 ?_ ?_ | refine sp4 ?_ ?_ | refine sp5 ?_ ?_ | refine sp6 ?_ ?_ | refine sp7 ?_ ?_) <;> intro hb) <;> (simp only [go_sem, hb, hcs])) | ((first | refine wm_done ?_ | refine wt_done ?_ | refine wg_run ?_ | refine fk ?_ ?_) <;> (simp only [go_sem, hcs]))))
          refine hR _ (ret_ownK (F := tupF 1 0) (cs := cs) (d := d) (ids := ids) (by (simp only [go_sem, hcs, htk]); first | done | rfl) ?_ e2 (fun _ => prVs_tupF))
          refine owL_frame (h := _ :: _ :: _ :: T) e1 (fun b hb => ?_)
          have hb3 : 3 ≤ b := by have := (e3 b hb).1; simp only [List.length_cons] at this; omega
          obtain ⟨b, rfl⟩ : ∃ x, b = x + 3 := ⟨b - 3, by omega⟩
          rfl
      | blame l => rw [es] at hA; exact own_zero hA
      | stuck => rw [es] at hA; exact own_zero hA
    · rw [ev] at hval
      simp only [SC.tm, SC.code, SC.lab]
      refine acl_in Try.func26 rfl isfn_26 (Nat.le_of_ble_eq_true rfl) (fun R hR => ?_); rw [Try.results26] at hR; refine wg_run ?_; (simp only [Try.f26, go_sem])
      repeat' (first | (first | (simp only [go_sem, int_bne]) | (((first | refine sp1 ?_ ?_ | refine sp2 ?_ ?_ | refine sp3 ?_ ?_ | refine sp4 ?_ ?_ | refine sp5 ?_ ?_ | refine sp6 ?_ ?_ | refine sp7 ?_ ?_) <;> intro hb) <;> (simp only [go_sem, hb, int_bne])) | ((first | refine wm_done ?_ | refine wt_done ?_ | refine wg_run ?_ | refine fk ?_ ?_) <;> (simp only [go_sem, int_bne]))) | (first | refine cd (hc := hv) (hK := ?_) | refine cm (hc := hv) (hK := ?_) | refine ct (hc := hv) (hK := ?_)); (simp only [go_sem]) | (first | refine cd (hc := hval) (hK := ?_) | refine cm (hc := hval) (hK := ?_) | refine ct (hc := hval) (hK := ?_)); (simp only [go_sem]) | fail)
      refine wd_any (acalls_own (.cons (.same (by (simp only [go_sem]); first | done | rfl)) .nil) ho (fun _ h => h) ren_agg) ?_
      rintro _ h' ⟨cs, d, ids, rfl, e1, e2, e3, e4, e5⟩
      obtain ⟨T, rfl, f1, f2⟩ := pre2 e4 e5
      have hcs : cs.length = 9 := by rw [← fzL_len e1, teC_length]
      have htk : cs.take 9 = cs := List.take_of_length_le (by omega)
      (simp only [go_sem, hcs])
      repeat' (first | (first | (simp only [go_sem, hcs]) | (((first | refine sp1 ?_ ?_ | refine sp2 ?_ ?_ | refine sp3 ?_ ?_ | refine sp4 ?_ ?_ | refine sp5 ?_ ?_ | refine sp6 ?_ ?_ | refine sp7 ?_ ?_) <;> intro hb) <;> (simp only [go_sem, hb, hcs])) | ((first | refine wm_done ?_ | refine wt_done ?_ | refine wg_run ?_ | refine fk ?_ ?_) <;> (simp only [go_sem, hcs]))))
      refine hR _ (ret_ownK (F := tupF 0 0) (cs := cs) (d := d) (ids := ids) (by (simp only [go_sem, hcs, htk]); first | done | rfl) ?_ e2 (fun _ => prVs_tupF))
      refine owL_frame (h := _ :: _ :: T) e1 (fun b hb => ?_)
      have hb2 : 2 ≤ b := by have := (e3 b hb).1; simp only [List.length_cons] at this; omega
      obtain ⟨b, rfl⟩ : ∃ x, b = x + 2 := ⟨b - 2, by omega⟩
      rfl
def quadF (a b c : Int) (cs : List C) : AV := .tup [.agg cs, .one (.sc (.int .i64 a)), .one (.sc (.int .i64 b)), .one (.sc (.int .i64 c))]
theorem quadF_flat (a b c : Int) (cs : List C) (h : cs.all C.flat = true) : (quadF a b c cs).flat = true := by
  simp only [quadF, AV.flat, AV.flats, h, C.flat, Bool.and_true]
theorem quadF_ren (a b c : Int) (cs : List C) (g : Nat → Nat) : (quadF a b c cs).ren g = quadF a b c (cs.map (C.ren g)) := by
  simp only [quadF, AV.ren, AV.renL, renA_map, C.ren]
theorem prVs_quadF {a b c : Int} {h : List Blk} {ids : List Nat} {cs cs' : List C} (e : prL false h ids cs = some (cs', [])) : prVs false h ids [quadF a b c cs] = some ([quadF a b c cs'], []) := by
  simp only [quadF, prVs, prV, e, prC, List.append_nil]
theorem iEvaluateO (g : FuncId) (hg : ∀ t : Tm, AFn Try.prog g [.agg (teC t)] (.tup [])) (e : E) (h : e.okC = true) (f : Nat) (hf : f ≤ 300) (v : E) (n : Nat) (hev0 : e.evI f 0 = (.value v, n)) : ACl Try.prog 56 [.agg (teC e.tm), .one (.sc (.int .i64 (f : Nat))), .one (.fn g [])] [] (OwnK (teC v.tm) (quadF 0 0 (n : Nat))) := by
  refine acl_in Try.func56 rfl isfn_56 (Nat.le_of_ble_eq_true rfl) (fun R hR => ?_); rw [Try.results56] at hR; refine wg_run ?_; (simp only [Try.f56, go_sem])
  repeat' (first | (first | (((first | refine sp1 ?_ ?_ | refine sp2 ?_ ?_ | refine sp3 ?_ ?_ | refine sp4 ?_ ?_ | refine sp5 ?_ ?_ | refine sp6 ?_ ?_ | refine sp7 ?_ ?_) <;> intro hb) <;> (simp only [go_sem, hb])) | ((first | refine wm_done ?_ | refine wt_done ?_ | refine wg_run ?_ | refine fk ?_ ?_) <;> (simp only [go_sem]))) | (first | refine cd (hc := hg _) (hK := ?_) | refine cm (hc := hg _) (hK := ?_) | refine ct (hc := hg _) (hK := ?_)); (simp only [go_sem]) | fail)
  refine wd_for [1, 2, 3, 6, 7, 8, 9, 10] (fun (s : Nat × E) => [.one (.sc (.int .i64 (f : Nat))), .one (.fn g []), .one (.ptr 9 0 0 0), .one (.ptr 9 1 0 0), .one (.sc (.int .i64 0)), .one (.sc (.int .i64 0)), .one (.sc (.int .i64 0)), .one (.sc (.int .i64 (s.1 : Nat)))])
    (fun s => [⟨9, 28, .mut, [teC s.2.tm]⟩, ⟨9, 28, .mut, [[.sc (.int .i64 0), .sc (.string { data := { toList := [] } }), .sc (.int .i64 0), .sc (.int .i64 0), .sc (.slice none 0 0), .sc (.int .i64 0), .sc (.slice none 0 0), .sc (.int .i64 0), .sc (.slice none 0 0)]]⟩])
    (fun s => s.1 ≤ f ∧ s.2.okC = true ∧ s.2.evI (f - s.1) s.1 = (.value v, n)) (fun s => f - s.1) (0, e) ⟨Nat.zero_le _, h, hev0⟩ (hat [0, 1] (hI := ⟨rfl, rfl⟩)) ?_
  rintro ⟨k, x⟩ ⟨hk, hx, hev⟩ G hG
  simp only [] at hk hx hev
  have hs := iStepCast x hx
  refine wg_run ?_
  cases hsc : x.sc with
  | took y =>
    rw [hsc] at hs
    simp only [scT, SC.tm, SC.code, SC.lab] at hs
    by_cases hkf : k = f
    · exfalso
      rw [show f - k = 0 from by omega] at hev
      simp only [E.evI, hsc] at hev
      simp at hev
    · have hke : (((k : Nat) : Int) == (f : Int)) = false := by simp; omega
      have hw1 := wrap_succ (k := k) (n := f) (by omega) (by omega)
      obtain ⟨m, hm⟩ : ∃ m, f - k = m + 1 := ⟨f - k - 1, by omega⟩
      rw [hm, E.evI_took hsc] at hev
      have hm2 : f - (k + 1) = m := by omega
      (simp only [go_sem, hke])
      repeat' (first | (first | (simp only [go_sem, int_bne, hke, hw1]) | (((first | refine sp1 ?_ ?_ | refine sp2 ?_ ?_ | refine sp3 ?_ ?_ | refine sp4 ?_ ?_ | refine sp5 ?_ ?_ | refine sp6 ?_ ?_ | refine sp7 ?_ ?_) <;> intro hb) <;> (simp only [go_sem, hb, int_bne, hke, hw1])) | ((first | refine wm_done ?_ | refine wt_done ?_ | refine wg_run ?_ | refine fk ?_ ?_) <;> (simp only [go_sem, int_bne, hke, hw1]))) | (first | refine cd (hc := hs) (hK := ?_) | refine cm (hc := hs) (hK := ?_) | refine ct (hc := hs) (hK := ?_)); (simp only [go_sem]) | (first | refine cd (hc := hg y.tm) (hK := ?_) | refine cm (hc := hg y.tm) (hK := ?_) | refine ct (hc := hg y.tm) (hK := ?_)); (simp only [go_sem]) | fail)
      exact hG (k + 1, y) _ _ ⟨by show k + 1 ≤ f; omega, E.sc_ok hsc, by show y.evI (f - (k + 1)) (k + 1) = _; rw [hm2]; exact hev⟩ (by show f - (k + 1) < f - k; omega) (hat [0, 1] (hI := ⟨rfl, rfl⟩))
  | value w =>
    rw [E.evI_stop (fun y => by rw [hsc]; simp), hsc] at hev
    simp only [Prod.mk.injEq, SC.value.injEq] at hev
    obtain ⟨rfl, rfl⟩ := hev
    have ho := iStepO x.tm
    rw [Tm.stepV_E hx, hsc] at ho
    simp only [SC.tm, SC.code, SC.lab] at ho
    clear hs
    (simp only [go_sem])
    repeat' (first | (first | (simp only [go_sem, int_bne]) | (((first | refine sp1 ?_ ?_ | refine sp2 ?_ ?_ | refine sp3 ?_ ?_ | refine sp4 ?_ ?_ | refine sp5 ?_ ?_ | refine sp6 ?_ ?_ | refine sp7 ?_ ?_) <;> intro hb) <;> (simp only [go_sem, hb, int_bne])) | ((first | refine wm_done ?_ | refine wt_done ?_ | refine wg_run ?_ | refine fk ?_ ?_) <;> (simp only [go_sem, int_bne]))) | fail)
    refine wd_any (acalls_ownT (p := 2) (pre := [_, _]) (T := []) rfl (.cons (.same (by (simp only [go_sem]); first | done | rfl)) .nil) ho (tupF_flat _ _) (tupF_ren _ _)) ?_
    rintro _ _ ⟨cs, T, ids, rfl, rfl, -, -, O, -⟩
    have hcs : cs.length = 9 := by rw [O.len, teC_length]
    have htk : cs.take 9 = cs := List.take_of_length_le (by omega)
    simp only [tupF]
    (simp only [go_sem, hcs])
    repeat' (first | (first | (simp only [go_sem, hcs, htk, int_bne]) | (((first | refine sp1 ?_ ?_ | refine sp2 ?_ ?_ | refine sp3 ?_ ?_ | refine sp4 ?_ ?_ | refine sp5 ?_ ?_ | refine sp6 ?_ ?_ | refine sp7 ?_ ?_) <;> intro hb) <;> (simp only [go_sem, hb, hcs, htk, int_bne])) | ((first | refine wm_done ?_ | refine wt_done ?_ | refine wg_run ?_ | refine fk ?_ ?_) <;> (simp only [go_sem, hcs, htk, int_bne]))) | fail)
    obtain ⟨d, hd⟩ := (O.app [_]).own
    exact hR _ (ret_ownK (F := quadF 0 0 (k : Nat)) (cs := cs) (d := d) (ids := ids) (by (simp only [go_sem, hcs, htk]); first | done | rfl) (hd [_, _] rfl) O.nodup (fun _ => prVs_quadF))
  | _ =>
    rw [E.evI_stop (fun y => by rw [hsc]; simp), hsc] at hev
    simp at hev
end Go.Proofs.Ytnaebafafhamjaa
/- Trees whose lengths fit into the machine's numbers; their weights. -/
namespace Go.Proofs.Grad
mutual
def Ty.fits : Ty → Prop | .mk _ l => l.length ≤ 9223372036854775807 ∧ Ty.fitss l
def Ty.fitss : List Ty → Prop | [] => True | t :: l => t.fits ∧ Ty.fitss l
end
mutual
def Tm.fits : Tm → Prop | .mk _ n _ t f _ l => n.size ≤ 9223372036854775807 ∧ t.fits ∧ f.fits ∧ l.length ≤ 9223372036854775807 ∧ Tm.fitss l
def Tm.fitss : List Tm → Prop | [] => True | t :: l => t.fits ∧ Tm.fitss l
end
mutual
def Co.fits : Co → Prop | .mk _ _ _ l => l.length ≤ 9223372036854775807 ∧ Co.fitss l
def Co.fitss : List Co → Prop | [] => True | t :: l => t.fits ∧ Co.fitss l
end
theorem Ty.fitss_mem {t : Ty} : ∀ {l : List Ty}, Ty.fitss l → t ∈ l → t.fits
  | x :: l, h, hm => by
    rcases List.mem_cons.1 hm with rfl | hm
    · exact h.1
    · exact Ty.fitss_mem h.2 hm
theorem Tm.fitss_mem {t : Tm} : ∀ {l : List Tm}, Tm.fitss l → t ∈ l → t.fits
  | x :: l, h, hm => by
    rcases List.mem_cons.1 hm with rfl | hm
    · exact h.1
    · exact Tm.fitss_mem h.2 hm
theorem Co.fitss_mem {t : Co} : ∀ {l : List Co}, Co.fitss l → t ∈ l → t.fits
  | x :: l, h, hm => by
    rcases List.mem_cons.1 hm with rfl | hm
    · exact h.1
    · exact Co.fitss_mem h.2 hm
theorem Ty.fitss_of : ∀ {l : List Ty}, (∀ i (h : i < l.length), l[i].fits) → Ty.fitss l
  | [], _ => trivial
  | x :: l, h => ⟨h 0 (by simp), Ty.fitss_of fun i hi => h (i + 1) (by simpa using hi)⟩
theorem Tm.fitss_of : ∀ {l : List Tm}, (∀ i (h : i < l.length), l[i].fits) → Tm.fitss l
  | [], _ => trivial
  | x :: l, h => ⟨h 0 (by simp), Tm.fitss_of fun i hi => h (i + 1) (by simpa using hi)⟩
theorem Co.fitss_of : ∀ {l : List Co}, (∀ i (h : i < l.length), l[i].fits) → Co.fitss l
  | [], _ => trivial
  | x :: l, h => ⟨h 0 (by simp), Co.fitss_of fun i hi => h (i + 1) (by simpa using hi)⟩
mutual
def Ty.wt : Ty → Nat | .mk _ l => Ty.wts l
def Ty.wts : List Ty → Nat | [] => 0 | t :: l => 1 + t.wt + Ty.wts l
end
mutual
def Tm.wt : Tm → Nat | .mk _ n _ t f _ l => n.size + (t.wt + (f.wt + Tm.wts l))
def Tm.wts : List Tm → Nat | [] => 0 | t :: l => 1 + t.wt + Tm.wts l
end
mutual
def Co.wt : Co → Nat | .mk _ _ _ l => Co.wts l
def Co.wts : List Co → Nat | [] => 0 | t :: l => 1 + t.wt + Co.wts l
end
mutual
theorem Ty.size_wt : ∀ t : Ty, t.size = 1 + t.wt
  | .mk _ l => by simp only [Ty.size, Ty.wt, Ty.sizes_wts l]
theorem Ty.sizes_wts : ∀ l : List Ty, Ty.sizes l = Ty.wts l
  | [] => rfl
  | t :: l => by simp only [Ty.sizes, Ty.wts, Ty.size_wt t, Ty.sizes_wts l]
end
mutual
theorem Co.size_wt : ∀ t : Co, t.size = 1 + t.wt
  | .mk _ _ _ l => by simp only [Co.size, Co.wt, Co.sizes_wts l]
theorem Co.sizes_wts : ∀ l : List Co, Co.sizes l = Co.wts l
  | [] => rfl
  | t :: l => by simp only [Co.sizes, Co.wts, Co.size_wt t, Co.sizes_wts l]
end
mutual
theorem Tm.size_wt : ∀ t : Tm, t.size ≤ 3 + 3 * t.wt
  | .mk _ _ _ t f _ l => by
    have := Tm.sizes_wts l
    have := Ty.size_wt t
    have := Ty.size_wt f
    simp only [Tm.size, Tm.wt]; omega
theorem Tm.sizes_wts : ∀ l : List Tm, Tm.sizes l ≤ 3 * Tm.wts l
  | [] => by simp [Tm.sizes, Tm.wts]
  | t :: l => by have := Tm.size_wt t; have := Tm.sizes_wts l; simp only [Tm.sizes, Tm.wts]; omega
end
end Go.Proofs.Grad
/- Types: the helpers of the exact laws, on shadows. -/
namespace Go.Proofs.Sh
open Go.RowKit Go.Proofs.Grad

/-! ### trees from memory: lengths fit -/
def szR (x : Nat) (left : Int) : Int := if (x : Int) ≤ left then left - x else -1
theorem szR_neg {x : Nat} {left : Int} (h : decide (szR x left < 0) = true) : szR x left = -1 := by
  have h := of_decide_eq_true h
  unfold szR at h ⊢
  split <;> rename_i h' <;> simp [h'] at h ⊢
  omega
theorem szR_nneg {x : Nat} {left : Int} (h : decide (szR x left < 0) = false) : (x : Int) ≤ left ∧ szR x left = left - x := by
  have h := of_decide_eq_false h
  unfold szR at h ⊢
  split <;> rename_i h' <;> simp [h'] at h ⊢
theorem tyall2_kid {f : Ty → Ty → Bool} {a b : List Ty} {i : Nat} (ha : i < a.length) (hb : i < b.length) : all2 f (a.drop i) (b.drop i) = (f (kid a i) (kid b i) && all2 f (a.drop (i + 1)) (b.drop (i + 1))) := by
  rw [drop_kid ha, drop_kid hb]; rfl
theorem tyall2_end {f : Ty → Ty → Bool} {a b : List Ty} {i : Nat} (ha : ¬ i < a.length) (hb : a.length = b.length) : all2 f (a.drop i) (b.drop i) = true := by
  rw [List.drop_eq_nil_of_le (by omega), List.drop_eq_nil_of_le (by omega)]; rfl

/-! ### sizes -/
theorem tyw_mem {l : List Ty} {k : Nat} (h : k < l.length) : Ty.wts (l.take (k + 1)) = Ty.wts (l.take k) + (1 + (kid l k).wt) := by
  rw [take_kid h]
  induction l.take k with
  | nil => simp [Ty.wts]
  | cons x m ih => simp only [List.cons_append, Ty.wts, ih]; omega
theorem tyw_rest (l : List Ty) : ∀ k, k ≤ l.length → Ty.wts (l.take k) + (l.length - k) ≤ Ty.wts l := by
  induction l with
  | nil => intro k _; simp [Ty.wts]
  | cons x l ih =>
    intro k hk
    cases k with
    | zero => have := ih 0 (by omega); simp [Ty.wts] at this ⊢; omega
    | succ k => have := ih k (by simpa using hk); simp [Ty.wts] at this ⊢; omega
theorem tyw_fit {l : List Ty} (h : Ty.fitss l) {k : Nat} (hk : k < l.length) : (kid l k).fits := by
  rw [kid_eq hk]; exact Ty.fitss_mem h (List.getElem_mem hk)

/-! ### lists filled from the front -/
def tyF (l : List Ty) (k : Nat) : List (List C) := tyR (l.take k) ++ List.replicate (l.length - k) [.sc (.int .i64 0), .sc (.slice none 0 0)]
theorem tyF_0 (l : List Ty) : tyF l 0 = List.replicate l.length [.sc (.int .i64 0), .sc (.slice none 0 0)] := by simp [tyF, tyR]
theorem tyF_get {l : List Ty} {k : Nat} (h : k < l.length) : (tyF l k)[k]? = some [.sc (.int .i64 0), .sc (.slice none 0 0)] := by
  have e : (tyR (l.take k)).length = k := by rw [tyR_length, List.length_take]; omega
  rw [tyF, List.getElem?_append_right (by omega), e, Nat.sub_self, List.getElem?_replicate, if_pos (by omega)]
theorem tyF_set {l : List Ty} {k : Nat} (h : k < l.length) : (tyF l k).set k (tyC (kid l k)) = tyF l (k + 1) := by
  have e : (tyR (l.take k)).length = k := by rw [tyR_length, List.length_take]; omega
  rw [tyF, tyF, List.set_append_right _ _ (by omega), e, Nat.sub_self, show l.length - k = (l.length - (k + 1)) + 1 by omega, List.replicate_succ, List.set_cons_zero, tyR_take h, List.append_assoc]
  rfl
theorem tyF_end (l : List Ty) : tyF l l.length = tyR l := by simp [tyF]
@[go_sem] theorem tyF_pr (h : List Blk) (ks : List Nat) (l : List Ty) (k : Nat) : prRs h ks (tyF l k) = some (tyF l k, []) := by
  have h1 : ∀ n, prRs h ks (List.replicate n [.sc (.int .i64 0), .sc (.slice none 0 0)]) = some (List.replicate n [.sc (.int .i64 0), .sc (.slice none 0 0)], []) := by
    intro n
    induction n with
    | zero => rfl
    | succ n ih => rw [List.replicate_succ, prRs, ih]; rfl
  have h2 : ∀ (m : List Ty) n, prRs h ks (tyR m ++ List.replicate n [.sc (.int .i64 0), .sc (.slice none 0 0)]) = some (tyR m ++ List.replicate n [.sc (.int .i64 0), .sc (.slice none 0 0)], []) := by
    intro m n
    induction m with
    | nil => exact h1 n
    | cons x m ih => rw [tyR, List.cons_append, prRs, ih, prL, if_pos (tyC_treeL x)]; rfl
  exact h2 _ _
@[go_sem] theorem tyF_rows (l : List Ty) (k : Nat) : rowsLen 2 (tyF l k) = true := by
  have : ∀ n, rowsLen 2 (List.replicate n [.sc (.int .i64 0), .sc (.slice none 0 0)]) = true := by
    intro n
    induction n with
    | zero => rfl
    | succ n ih => rw [List.replicate_succ, rowsLen_cons, ih]; rfl
  rw [tyF, rowsLen_append, tyR_len, this]; rfl
theorem tyF_len (l : List Ty) {k : Nat} (h : k ≤ l.length) : (tyF l k).length = l.length := by
  simp [tyF, tyR_length]; omega
end Go.Proofs.Sh
namespace Go.Proofs.Ytnaebafafhamjaa
open Go.RowKit Go.Proofs.Sh Go.Proofs.Grad
set_option maxRecDepth 100000
set_option maxHeartbeats 4000000

theorem szTyS (n : Nat) (ih : ∀ t : Ty, t.size < n → t.fits → ∀ left : Int, 0 ≤ left → left ≤ 1048576 → AFn Try.prog 50 [.agg (tyC t), .one (.sc (.int .i64 left))] (.one (.sc (.int .i64 (szR t.wt left)))))
    (l : List Ty) (hn : Ty.sizes l < n) (hlen : l.length ≤ 9223372036854775807) (hf : Ty.fitss l) (left : Int) (h0 : 0 ≤ left) (h1 : left ≤ 1048576) : AFn Try.prog 101 [.one (.sl (tyR l)), .one (.sc (.int .i64 left))] (.one (.sc (.int .i64 (szR (Ty.wts l) left)))) := by
  have hw0 : IntKind.i64.wrap (left - (l.length : Int)) = left - (l.length : Int) := IntWalk.i64_in _ (by omega)
  have hge := tyw_rest l 0 (Nat.zero_le _)
  simp only [List.take_zero, Ty.wts] at hge
  by_cases hfit : (l.length : Int) ≤ left
  · have d0 : decide (left - (l.length : Int) < 0) = false := by simp; omega
    refine fn_in ?_; refine acl_in Try.func101 rfl isfn_101 (Nat.le_of_ble_eq_true rfl) (fun R hR => ?_); rw [Try.results101] at hR; refine wg_run ?_; (simp only [Try.f101, go_sem, hw0, d0])
    refine wd_for [0, 1, 5] (fun k => [.one (.sl (tyR l)), .one (.sc (.int .i64 (left - (l.length : Int) - ((Ty.wts (l.take k) : Int) - (k : Int))))), .one (.sc (.int .i64 (k : Nat)))]) (fun _ => [])
      (fun k => k ≤ l.length ∧ (Ty.wts (l.take k) : Int) + (l.length : Int) ≤ left + (k : Int)) (fun k => l.length - k) 0 ⟨Nat.zero_le _, by simp [Ty.wts]; omega⟩ (hat [] (hI := ⟨by simp [Ty.wts], rfl⟩)) ?_
    rintro k ⟨hk, hs⟩ G hG
    refine wg_run ?_
    (simp only [go_sem])
    have hr := tyw_rest l k hk
    ((first | refine sp1 ?_ ?_ | refine sp2 ?_ ?_ | refine sp3 ?_ ?_ | refine sp4 ?_ ?_ | refine sp5 ?_ ?_ | refine sp6 ?_ ?_ | refine sp7 ?_ ?_) <;> intro hb) <;> (simp only [go_sem, hb])
    · have hk1 : k < l.length := by have := of_decide_eq_true hb; omega
      have hw1 := wrap_succ hk1 (by omega)
      have hm := tyw_mem hk1
      have hr1 := tyw_rest l (k + 1) hk1
      have hc := ih (kid l k) (by rw [kid_eq hk1]; have := Ty.sizes_mem (List.getElem_mem hk1); omega) (tyw_fit hf hk1) (left - (l.length : Int) - ((Ty.wts (l.take k) : Int) - (k : Int))) (by omega) (by omega)
      by_cases hfk : ((kid l k).wt : Int) ≤ left - (l.length : Int) - ((Ty.wts (l.take k) : Int) - (k : Int))
      · have he : szR (kid l k).wt (left - (l.length : Int) - ((Ty.wts (l.take k) : Int) - (k : Int))) = left - (l.length : Int) - ((Ty.wts (l.take (k + 1)) : Int) - ((k + 1 : Nat) : Int)) := by
          unfold szR; rw [if_pos hfk, hm]; omega
        rw [he] at hc
        have d1 : decide (left - (l.length : Int) - ((Ty.wts (l.take (k + 1)) : Int) - ((k + 1 : Nat) : Int)) < 0) = false := by simp; omega
        (first | refine cd (hc := hc) (hK := ?_) | refine cm (hc := hc) (hK := ?_) | refine ct (hc := hc) (hK := ?_)); (simp only [go_sem])
        repeat' (first | (simp only [go_sem, hw1, d1]) | (((first | refine sp1 ?_ ?_ | refine sp2 ?_ ?_ | refine sp3 ?_ ?_ | refine sp4 ?_ ?_ | refine sp5 ?_ ?_ | refine sp6 ?_ ?_ | refine sp7 ?_ ?_) <;> intro hb) <;> (simp only [go_sem, hb, hw1, d1])) | ((first | refine wm_done ?_ | refine wt_done ?_ | refine wg_run ?_ | refine fk ?_ ?_) <;> (simp only [go_sem, hw1, d1])))
        exact hG (k + 1) _ _ ⟨by omega, by omega⟩ (by omega) (hat [] (hI := ⟨rfl, rfl⟩))
      · have he : szR (kid l k).wt (left - (l.length : Int) - ((Ty.wts (l.take k) : Int) - (k : Int))) = -1 := by
          unfold szR; rw [if_neg hfk]
        rw [he] at hc
        have he2 : szR (Ty.wts l) left = -1 := by unfold szR; rw [if_neg (by omega)]
        (first | refine cd (hc := hc) (hK := ?_) | refine cm (hc := hc) (hK := ?_) | refine ct (hc := hc) (hK := ?_)); (simp only [go_sem])
        repeat' (first | (simp only [go_sem, hw1]) | (((first | refine sp1 ?_ ?_ | refine sp2 ?_ ?_ | refine sp3 ?_ ?_ | refine sp4 ?_ ?_ | refine sp5 ?_ ?_ | refine sp6 ?_ ?_ | refine sp7 ?_ ?_) <;> intro hb) <;> (simp only [go_sem, hb, hw1])) | ((first | refine wm_done ?_ | refine wt_done ?_ | refine wg_run ?_ | refine fk ?_ ?_) <;> (simp only [go_sem, hw1])))
        (refine hR _ (rat [] (hK := ⟨?_, rfl⟩)))
        rw [he2]
    · have hk1 : k = l.length := by have := of_decide_eq_false hb; omega
      subst hk1
      rw [List.take_length] at hs hr
      have he2 : szR (Ty.wts l) left = left - (l.length : Int) - ((Ty.wts l : Int) - (l.length : Int)) := by unfold szR; rw [if_pos (by omega)]; omega
      rw [List.take_length]
      (refine hR _ (rat [] (hK := ⟨?_, rfl⟩)))
      rw [he2]
  · have d0 : decide (left - (l.length : Int) < 0) = true := by simp; omega
    have he2 : szR (Ty.wts l) left = -1 := by unfold szR; rw [if_neg (by omega)]
    refine fn_in ?_; refine acl_in Try.func101 rfl isfn_101 (Nat.le_of_ble_eq_true rfl) (fun R hR => ?_); rw [Try.results101] at hR; refine wg_run ?_; (simp only [Try.f101, go_sem, hw0, d0])
    (refine hR _ (rat [] (hK := ⟨?_, rfl⟩)))
    rw [he2]

/-! ### equality -/
theorem eqTyS (n : Nat) (ih : ∀ a b : Ty, a.size < n → AFn Try.prog 58 [.agg (tyC a), .agg (tyC b)] (.one (.sc (.bool (a.same b))))) (l m : List Ty) (hn : Ty.sizes l < n) (hlen : l.length < 4611686018427387904) :
    AFn Try.prog 104 [.one (.sl (tyR l)), .one (.sl (tyR m))] (.one (.sc (.bool (Ty.sames l m)))) := by
  rw [Ty.sames_all2]
  by_cases hlm : l.length = m.length
  · have hb0 : ((l.length : Int) == (m.length : Int)) = true := by simp; omega
    refine fn_in ?_; refine acl_in Try.func104 rfl isfn_104 (Nat.le_of_ble_eq_true rfl) (fun R hR => ?_); rw [Try.results104] at hR; refine wg_run ?_; (simp only [Try.f104, go_sem, hb0, int_bne])
    refine wd_for [0, 1, 5] (fun k => [.one (.sl (tyR l)), .one (.sl (tyR m)), .one (.sc (.int .i64 (k : Nat)))]) (fun _ => [])
      (fun k => k ≤ l.length ∧ all2 Ty.same (l.drop k) (m.drop k) = all2 Ty.same l m) (fun k => l.length - k) 0 ⟨Nat.zero_le _, rfl⟩ (hat [] (hI := ⟨rfl, rfl⟩)) ?_
    rintro k ⟨hk, hs⟩ G hG
    refine wg_run ?_
    (simp only [go_sem])
    ((first | refine sp1 ?_ ?_ | refine sp2 ?_ ?_ | refine sp3 ?_ ?_ | refine sp4 ?_ ?_ | refine sp5 ?_ ?_ | refine sp6 ?_ ?_ | refine sp7 ?_ ?_) <;> intro hb) <;> (simp only [go_sem, hb])
    · have hk1 : k < l.length := by have := of_decide_eq_true hb; omega
      have hk2 : decide ((k : Int) < (m.length : Int)) = true := by simp; omega
      have hw1 := wrap_succ hk1 (by omega)
      rw [tyall2_kid hk1 (by omega)] at hs
      have hc := ih (kid l k) (kid m k) (by rw [kid_eq hk1]; have := Ty.sizes_mem (List.getElem_mem hk1); omega)
      repeat' (first | (first | (simp only [go_sem, hb, hk2, hw1]) | (((first | refine sp1 ?_ ?_ | refine sp2 ?_ ?_ | refine sp3 ?_ ?_ | refine sp4 ?_ ?_ | refine sp5 ?_ ?_ | refine sp6 ?_ ?_ | refine sp7 ?_ ?_) <;> intro hb) <;> (simp only [go_sem, hb, hb, hk2, hw1])) | ((first | refine wm_done ?_ | refine wt_done ?_ | refine wg_run ?_ | refine fk ?_ ?_) <;> (simp only [go_sem, hb, hk2, hw1]))) | ((first | refine mx 6 [] follows ?_ | refine mx 5 [] follows ?_ | refine mx 4 [] follows ?_ | refine mx 3 [] follows ?_ | refine mx 2 [] follows ?_ | refine mx 1 [] follows ?_ | refine mx 0 [] follows ?_ | fail); (simp only [go_sem, hb, hk2])) | (first | refine cd (hc := hc) (hK := ?_) | refine cm (hc := hc) (hK := ?_) | refine ct (hc := hc) (hK := ?_)); (simp only [go_sem]))
      · exact hG (k + 1) _ _ ⟨by omega, by simpa [hb] using hs⟩ (by omega) (hat [] (hI := ⟨rfl, rfl⟩))
      · (refine hR _ (rat [] (hK := ⟨?_, rfl⟩)))
        simpa [hb] using hs
    · have hk1 : ¬ k < l.length := by have := of_decide_eq_false hb; omega
      rw [tyall2_end hk1 hlm] at hs
      (refine hR _ (rat [] (hK := ⟨?_, rfl⟩)))
      rw [hs]
  · have hb0 : ((l.length : Int) == (m.length : Int)) = false := by simp; omega
    refine fn_in ?_; refine acl_in Try.func104 rfl isfn_104 (Nat.le_of_ble_eq_true rfl) (fun R hR => ?_); rw [Try.results104] at hR; refine wg_run ?_; (simp only [Try.f104, go_sem, hb0, int_bne])
    (refine hR _ (rat [] (hK := ⟨?_, rfl⟩)))
    rw [all2_len hlm]

/-! ### copies from the law's types to the program's -/
theorem toTyS (n : Nat) (ih : ∀ t : Ty, t.size < n → AFn Try.prog 53 [.agg (tyC t)] (.agg (tyC t))) (l : List Ty) (hn : Ty.sizes l < n) (hlen : l.length < 1099511627776) :
    AFn Try.prog 102 [.one (.sl (tyR l))] (.one (.sl (tyR l))) := by
  have hcap : decide ((32 : Int) * (l.length : Int) ≤ 140737488355328 ∧ (l.length : Int) ≤ 140737488355328) = true := by simp; omega
  refine fn_in ?_; refine acl_in Try.func102 rfl isfn_102 (Nat.le_of_ble_eq_true rfl) (fun R hR => ?_); rw [Try.results102] at hR; refine wg_run ?_; (simp only [Try.f102, go_sem, hcap])
  rw [← tyF_0 l]
  refine wd_for [0, 3, 4] (fun k => [.one (.sl (tyR l)), .one (.row 2 0 l.length), .one (.sc (.int .i64 (k : Nat)))]) (fun k => [⟨2, 25, .mut, tyF l k⟩])
    (fun k => k ≤ l.length) (fun k => l.length - k) 0 (Nat.zero_le _) (head_at [0] (by (simp only [go_sem]); first | done | rfl) (by (simp only [go_sem]); generalize treeRows _ = b; cases b <;> rfl) ⟨rfl, rfl⟩) ?_
  rintro k hk G hG
  refine wg_run ?_
  (simp only [go_sem])
  ((first | refine sp1 ?_ ?_ | refine sp2 ?_ ?_ | refine sp3 ?_ ?_ | refine sp4 ?_ ?_ | refine sp5 ?_ ?_ | refine sp6 ?_ ?_ | refine sp7 ?_ ?_) <;> intro hb) <;> (simp only [go_sem, hb])
  · have hk1 : k < l.length := by have := of_decide_eq_true hb; omega
    have hw1 := wrap_succ hk1 (by omega)
    have hc := ih (kid l k) (by rw [kid_eq hk1]; have := Ty.sizes_mem (List.getElem_mem hk1); omega)
    have hkn : decide (k < l.length) = true := by simpa using hk1
    repeat' (first | (first | (simp only [go_sem, hb, hw1, hkn, tyF_get hk1, tyF_set hk1]) | (((first | refine sp1 ?_ ?_ | refine sp2 ?_ ?_ | refine sp3 ?_ ?_ | refine sp4 ?_ ?_ | refine sp5 ?_ ?_ | refine sp6 ?_ ?_ | refine sp7 ?_ ?_) <;> intro hb) <;> (simp only [go_sem, hb, hb, hw1, hkn, tyF_get hk1, tyF_set hk1])) | ((first | refine wm_done ?_ | refine wt_done ?_ | refine wg_run ?_ | refine fk ?_ ?_) <;> (simp only [go_sem, hb, hw1, hkn, tyF_get hk1, tyF_set hk1]))) | ((first | refine mx 6 [] follows ?_ | refine mx 5 [] follows ?_ | refine mx 4 [] follows ?_ | refine mx 3 [] follows ?_ | refine mx 2 [] follows ?_ | refine mx 1 [] follows ?_ | refine mx 0 [] follows ?_ | fail); (simp only [go_sem, hb, hkn, tyF_get hk1, tyF_set hk1])) | (first | refine cd (hc := hc) (hK := ?_) | refine cm (hc := hc) (hK := ?_) | refine ct (hc := hc) (hK := ?_)); (simp only [go_sem]))
    exact hG (k + 1) _ _ (by omega) (by omega) (head_at [0] (by (simp only [go_sem]); first | done | rfl) (by (simp only [go_sem]); generalize treeRows _ = b; cases b <;> rfl) ⟨rfl, rfl⟩)
  · have hk1 : k = l.length := by have := of_decide_eq_false hb; omega
    subst hk1
    rw [tyF_end]
    (refine hR _ (rat [] (hK := ⟨?_, rfl⟩)))
    rfl

theorem szTy (n : Nat) : ∀ t : Ty, t.size < n → t.fits → ∀ left : Int, 0 ≤ left → left ≤ 1048576 → AFn Try.prog 50 [.agg (tyC t), .one (.sc (.int .i64 left))] (.one (.sc (.int .i64 (szR t.wt left)))) := by
  induction n with
  | zero => intro t h; omega
  | succ n ih =>
    intro t h hf left h0 h1
    have hc := szTyS n ih t.kids (by cases t; simp only [Ty.size, Ty.kids] at *; omega) (by cases t; exact hf.1) (by cases t; exact hf.2) left h0 h1
    have e : t.wt = Ty.wts t.kids := by cases t; rfl
    rw [← e] at hc
    refine fn_in ?_; refine acl_in Try.func50 rfl isfn_50 (Nat.le_of_ble_eq_true rfl) (fun R hR => ?_); rw [Try.results50] at hR; refine wg_run ?_; (simp only [Try.f50, go_sem])
    (first | refine cd (hc := hc) (hK := ?_) | refine cm (hc := hc) (hK := ?_) | refine ct (hc := hc) (hK := ?_)); (simp only [go_sem])
    repeat' (first | (((first | refine sp1 ?_ ?_ | refine sp2 ?_ ?_ | refine sp3 ?_ ?_ | refine sp4 ?_ ?_ | refine sp5 ?_ ?_ | refine sp6 ?_ ?_ | refine sp7 ?_ ?_) <;> intro hb) <;> (simp only [go_sem, hb])) | ((first | refine wm_done ?_ | refine wt_done ?_ | refine wg_run ?_ | refine fk ?_ ?_) <;> (simp only [go_sem])))
    · (refine hR _ (rat [] (hK := ⟨?_, rfl⟩)))
      rw [szR_neg hb]
    · (refine hR _ (rat [] (hK := ⟨rfl, rfl⟩)))
theorem eqTy (n : Nat) (hn : n ≤ 4611686018427387904) : ∀ a b : Ty, a.size < n → AFn Try.prog 58 [.agg (tyC a), .agg (tyC b)] (.one (.sc (.bool (a.same b)))) := by
  induction n with
  | zero => intro a b h; omega
  | succ n ih =>
    intro a b h
    have hc := eqTyS n (ih (by omega)) a.kids b.kids (by cases a; simp only [Ty.size, Ty.kids] at *; omega) (by have := Ty.length_le_sizes a.kids; cases a; simp only [Ty.size, Ty.kids] at *; omega)
    have e : a.same b = (a.kind == b.kind && Ty.sames a.kids b.kids) := by cases a; cases b; rfl
    rw [e]
    refine fn_in ?_; refine acl_in Try.func58 rfl isfn_58 (Nat.le_of_ble_eq_true rfl) (fun R hR => ?_); rw [Try.results58] at hR; refine wg_run ?_; (simp only [Try.f58, go_sem])
    repeat' (first | (first | (simp only [go_sem, int_bne]) | (((first | refine sp1 ?_ ?_ | refine sp2 ?_ ?_ | refine sp3 ?_ ?_ | refine sp4 ?_ ?_ | refine sp5 ?_ ?_ | refine sp6 ?_ ?_ | refine sp7 ?_ ?_) <;> intro hb) <;> (simp only [go_sem, hb, int_bne])) | ((first | refine wm_done ?_ | refine wt_done ?_ | refine wg_run ?_ | refine fk ?_ ?_) <;> (simp only [go_sem, int_bne]))) | (first | refine cd (hc := hc) (hK := ?_) | refine cm (hc := hc) (hK := ?_) | refine ct (hc := hc) (hK := ?_)); (simp only [go_sem]) | ((first | refine mx 6 [] follows ?_ | refine mx 5 [] follows ?_ | refine mx 4 [] follows ?_ | refine mx 3 [] follows ?_ | refine mx 2 [] follows ?_ | refine mx 1 [] follows ?_ | refine mx 0 [] follows ?_ | fail); (simp only [go_sem])))
    all_goals (refine hR _ (rat [] (hK := ⟨?_, rfl⟩)))
    all_goals simp_all
theorem toTy (n : Nat) (hn : n ≤ 1099511627776) : ∀ t : Ty, t.size < n → AFn Try.prog 53 [.agg (tyC t)] (.agg (tyC t)) := by
  induction n with
  | zero => intro t h; omega
  | succ n ih =>
    intro t h
    have hc := toTyS n (ih (by omega)) t.kids (by cases t; simp only [Ty.size, Ty.kids] at *; omega) (by have := Ty.length_le_sizes t.kids; cases t; simp only [Ty.size, Ty.kids] at *; omega)
    refine fn_in ?_; refine acl_in Try.func53 rfl isfn_53 (Nat.le_of_ble_eq_true rfl) (fun R hR => ?_); rw [Try.results53] at hR; refine wg_run ?_; (simp only [Try.f53, go_sem])
    repeat' (first | (first | (((first | refine sp1 ?_ ?_ | refine sp2 ?_ ?_ | refine sp3 ?_ ?_ | refine sp4 ?_ ?_ | refine sp5 ?_ ?_ | refine sp6 ?_ ?_ | refine sp7 ?_ ?_) <;> intro hb) <;> (simp only [go_sem, hb])) | ((first | refine wm_done ?_ | refine wt_done ?_ | refine wg_run ?_ | refine fk ?_ ?_) <;> (simp only [go_sem]))) | (first | refine cd (hc := hc) (hK := ?_) | refine cm (hc := hc) (hK := ?_) | refine ct (hc := hc) (hK := ?_)); (simp only [go_sem]) | ((first | refine mx 6 [] follows ?_ | refine mx 5 [] follows ?_ | refine mx 4 [] follows ?_ | refine mx 3 [] follows ?_ | refine mx 2 [] follows ?_ | refine mx 1 [] follows ?_ | refine mx 0 [] follows ?_ | fail); (simp only [go_sem])))
    (refine hR _ (rat [] (hK := ⟨?_, rfl⟩)))
    rw [tyC_eq]
end Go.Proofs.Ytnaebafafhamjaa
/- Terms: the helpers of the exact laws, on shadows. -/
namespace Go.Proofs.Sh
open Go.RowKit Go.Proofs.Grad

/-! ### sizes -/
theorem tew_mem {l : List Tm} {k : Nat} (h : k < l.length) : Tm.wts (l.take (k + 1)) = Tm.wts (l.take k) + (1 + (teKid l k).wt) := by
  rw [tetake_kid h]
  induction l.take k with
  | nil => simp [Tm.wts]
  | cons x m ih => simp only [List.cons_append, Tm.wts, ih]; omega
theorem tew_rest (l : List Tm) : ∀ k, k ≤ l.length → Tm.wts (l.take k) + (l.length - k) ≤ Tm.wts l := by
  induction l with
  | nil => intro k _; simp [Tm.wts]
  | cons x l ih =>
    intro k hk
    cases k with
    | zero => have := ih 0 (by omega); simp [Tm.wts] at this ⊢; omega
    | succ k => have := ih k (by simpa using hk); simp [Tm.wts] at this ⊢; omega
theorem tew_fit {l : List Tm} (h : Tm.fitss l) {k : Nat} (hk : k < l.length) : (teKid l k).fits := by
  rw [teKid_eq hk]; exact Tm.fitss_mem h (List.getElem_mem hk)

/-! ### lists filled from the front -/
def teF (l : List Tm) (k : Nat) : List (List C) := teR (l.take k) ++ List.replicate (l.length - k) [.sc (.int .i64 0), .sc (.string { data := { toList := [] } }), .sc (.int .i64 0), .sc (.int .i64 0), .sc (.slice none 0 0), .sc (.int .i64 0), .sc (.slice none 0 0), .sc (.int .i64 0), .sc (.slice none 0 0)]
theorem teF_0 (l : List Tm) : teF l 0 = List.replicate l.length [.sc (.int .i64 0), .sc (.string { data := { toList := [] } }), .sc (.int .i64 0), .sc (.int .i64 0), .sc (.slice none 0 0), .sc (.int .i64 0), .sc (.slice none 0 0), .sc (.int .i64 0), .sc (.slice none 0 0)] := by simp [teF, teR]
theorem teF_get {l : List Tm} {k : Nat} (h : k < l.length) : (teF l k)[k]? = some [.sc (.int .i64 0), .sc (.string { data := { toList := [] } }), .sc (.int .i64 0), .sc (.int .i64 0), .sc (.slice none 0 0), .sc (.int .i64 0), .sc (.slice none 0 0), .sc (.int .i64 0), .sc (.slice none 0 0)] := by
  have e : (teR (l.take k)).length = k := by rw [teR_length, List.length_take]; omega
  rw [teF, List.getElem?_append_right (by omega), e, Nat.sub_self, List.getElem?_replicate, if_pos (by omega)]
theorem teF_set {l : List Tm} {k : Nat} (h : k < l.length) : (teF l k).set k (teC (teKid l k)) = teF l (k + 1) := by
  have e : (teR (l.take k)).length = k := by rw [teR_length, List.length_take]; omega
  rw [teF, teF, List.set_append_right _ _ (by omega), e, Nat.sub_self, show l.length - k = (l.length - (k + 1)) + 1 by omega, List.replicate_succ, List.set_cons_zero, teR_take h, List.append_assoc]
  rfl
theorem teF_end (l : List Tm) : teF l l.length = teR l := by simp [teF]
@[go_sem] theorem teF_pr (h : List Blk) (ks : List Nat) (l : List Tm) (k : Nat) : prRs h ks (teF l k) = some (teF l k, []) := by
  have h1 : ∀ n, prRs h ks (List.replicate n [.sc (.int .i64 0), .sc (.string { data := { toList := [] } }), .sc (.int .i64 0), .sc (.int .i64 0), .sc (.slice none 0 0), .sc (.int .i64 0), .sc (.slice none 0 0), .sc (.int .i64 0), .sc (.slice none 0 0)]) = some (List.replicate n [.sc (.int .i64 0), .sc (.string { data := { toList := [] } }), .sc (.int .i64 0), .sc (.int .i64 0), .sc (.slice none 0 0), .sc (.int .i64 0), .sc (.slice none 0 0), .sc (.int .i64 0), .sc (.slice none 0 0)], []) := by
    intro n
    induction n with
    | zero => rfl
    | succ n ih => rw [List.replicate_succ, prRs, ih]; rfl
  have h2 : ∀ (m : List Tm) n, prRs h ks (teR m ++ List.replicate n [.sc (.int .i64 0), .sc (.string { data := { toList := [] } }), .sc (.int .i64 0), .sc (.int .i64 0), .sc (.slice none 0 0), .sc (.int .i64 0), .sc (.slice none 0 0), .sc (.int .i64 0), .sc (.slice none 0 0)]) = some (teR m ++ List.replicate n [.sc (.int .i64 0), .sc (.string { data := { toList := [] } }), .sc (.int .i64 0), .sc (.int .i64 0), .sc (.slice none 0 0), .sc (.int .i64 0), .sc (.slice none 0 0), .sc (.int .i64 0), .sc (.slice none 0 0)], []) := by
    intro m n
    induction m with
    | nil => exact h1 n
    | cons x m ih => rw [teR, List.cons_append, prRs, ih, prL, if_pos (teC_treeL x)]; rfl
  exact h2 _ _
@[go_sem] theorem teF_rows (l : List Tm) (k : Nat) : rowsLen 9 (teF l k) = true := by
  have : ∀ n, rowsLen 9 (List.replicate n [.sc (.int .i64 0), .sc (.string { data := { toList := [] } }), .sc (.int .i64 0), .sc (.int .i64 0), .sc (.slice none 0 0), .sc (.int .i64 0), .sc (.slice none 0 0), .sc (.int .i64 0), .sc (.slice none 0 0)]) = true := by
    intro n
    induction n with
    | zero => rfl
    | succ n ih => rw [List.replicate_succ, rowsLen_cons, ih]; rfl
  rw [teF, rowsLen_append, teR_len, this]; rfl
theorem teF_len (l : List Tm) {k : Nat} (h : k ≤ l.length) : (teF l k).length = l.length := by
  simp [teF, teR_length]; omega
end Go.Proofs.Sh
namespace Go.Proofs.Ytnaebafafhamjaa
open Go.RowKit Go.Proofs.Sh Go.Proofs.Grad
set_option maxRecDepth 100000
set_option maxHeartbeats 4000000

theorem szTmS (n : Nat) (ih : ∀ t : Tm, t.size < n → t.fits → ∀ left : Int, 0 ≤ left → left ≤ 1048576 → AFn Try.prog 13 [.agg (teC t), .one (.sc (.int .i64 left))] (.one (.sc (.int .i64 (szR t.wt left)))))
    (l : List Tm) (hn : Tm.sizes l < n) (hlen : l.length ≤ 9223372036854775807) (hf : Tm.fitss l) (left : Int) (h0 : 0 ≤ left) (h1 : left ≤ 1048576) : AFn Try.prog 51 [.one (.sl (teR l)), .one (.sc (.int .i64 left))] (.one (.sc (.int .i64 (szR (Tm.wts l) left)))) := by
  have hw0 : IntKind.i64.wrap (left - (l.length : Int)) = left - (l.length : Int) := IntWalk.i64_in _ (by omega)
  have hge := tew_rest l 0 (Nat.zero_le _)
  simp only [List.take_zero, Tm.wts] at hge
  by_cases hfit : (l.length : Int) ≤ left
  · have d0 : decide (left - (l.length : Int) < 0) = false := by simp; omega
    refine fn_in ?_; refine acl_in Try.func51 rfl isfn_51 (Nat.le_of_ble_eq_true rfl) (fun R hR => ?_); rw [Try.results51] at hR; refine wg_run ?_; (simp only [Try.f51, go_sem, hw0, d0])
    refine wd_for [0, 1, 5] (fun k => [.one (.sl (teR l)), .one (.sc (.int .i64 (left - (l.length : Int) - ((Tm.wts (l.take k) : Int) - (k : Int))))), .one (.sc (.int .i64 (k : Nat)))]) (fun _ => [])
      (fun k => k ≤ l.length ∧ (Tm.wts (l.take k) : Int) + (l.length : Int) ≤ left + (k : Int)) (fun k => l.length - k) 0 ⟨Nat.zero_le _, by simp [Tm.wts]; omega⟩ (hat [] (hI := ⟨by simp [Tm.wts], rfl⟩)) ?_
    rintro k ⟨hk, hs⟩ G hG
    refine wg_run ?_
    (simp only [go_sem])
    have hr := tew_rest l k hk
    ((first | refine sp1 ?_ ?_ | refine sp2 ?_ ?_ | refine sp3 ?_ ?_ | refine sp4 ?_ ?_ | refine sp5 ?_ ?_ | refine sp6 ?_ ?_ | refine sp7 ?_ ?_) <;> intro hb) <;> (simp only [go_sem, hb])
    · have hk1 : k < l.length := by have := of_decide_eq_true hb; omega
      have hw1 := wrap_succ hk1 (by omega)
      have hm := tew_mem hk1
      have hr1 := tew_rest l (k + 1) hk1
      have hc := ih (teKid l k) (by rw [teKid_eq hk1]; have := tesizes_mem (List.getElem_mem hk1); omega) (tew_fit hf hk1) (left - (l.length : Int) - ((Tm.wts (l.take k) : Int) - (k : Int))) (by omega) (by omega)
      by_cases hfk : ((teKid l k).wt : Int) ≤ left - (l.length : Int) - ((Tm.wts (l.take k) : Int) - (k : Int))
      · have he : szR (teKid l k).wt (left - (l.length : Int) - ((Tm.wts (l.take k) : Int) - (k : Int))) = left - (l.length : Int) - ((Tm.wts (l.take (k + 1)) : Int) - ((k + 1 : Nat) : Int)) := by
          unfold szR; rw [if_pos hfk, hm]; omega
        rw [he] at hc
        have d1 : decide (left - (l.length : Int) - ((Tm.wts (l.take (k + 1)) : Int) - ((k + 1 : Nat) : Int)) < 0) = false := by simp; omega
        (first | refine cd (hc := hc) (hK := ?_) | refine cm (hc := hc) (hK := ?_) | refine ct (hc := hc) (hK := ?_)); (simp only [go_sem])
        repeat' (first | (simp only [go_sem, hw1, d1]) | (((first | refine sp1 ?_ ?_ | refine sp2 ?_ ?_ | refine sp3 ?_ ?_ | refine sp4 ?_ ?_ | refine sp5 ?_ ?_ | refine sp6 ?_ ?_ | refine sp7 ?_ ?_) <;> intro hb) <;> (simp only [go_sem, hb, hw1, d1])) | ((first | refine wm_done ?_ | refine wt_done ?_ | refine wg_run ?_ | refine fk ?_ ?_) <;> (simp only [go_sem, hw1, d1])))
        exact hG (k + 1) _ _ ⟨by omega, by omega⟩ (by omega) (hat [] (hI := ⟨rfl, rfl⟩))
      · have he : szR (teKid l k).wt (left - (l.length : Int) - ((Tm.wts (l.take k) : Int) - (k : Int))) = -1 := by
          unfold szR; rw [if_neg hfk]
        rw [he] at hc
        have he2 : szR (Tm.wts l) left = -1 := by unfold szR; rw [if_neg (by omega)]
        (first | refine cd (hc := hc) (hK := ?_) | refine cm (hc := hc) (hK := ?_) | refine ct (hc := hc) (hK := ?_)); (simp only [go_sem])
        repeat' (first | (simp only [go_sem, hw1]) | (((first | refine sp1 ?_ ?_ | refine sp2 ?_ ?_ | refine sp3 ?_ ?_ | refine sp4 ?_ ?_ | refine sp5 ?_ ?_ | refine sp6 ?_ ?_ | refine sp7 ?_ ?_) <;> intro hb) <;> (simp only [go_sem, hb, hw1])) | ((first | refine wm_done ?_ | refine wt_done ?_ | refine wg_run ?_ | refine fk ?_ ?_) <;> (simp only [go_sem, hw1])))
        (refine hR _ (rat [] (hK := ⟨?_, rfl⟩)))
        rw [he2]
    · have hk1 : k = l.length := by have := of_decide_eq_false hb; omega
      subst hk1
      rw [List.take_length] at hs hr
      have he2 : szR (Tm.wts l) left = left - (l.length : Int) - ((Tm.wts l : Int) - (l.length : Int)) := by unfold szR; rw [if_pos (by omega)]; omega
      rw [List.take_length]
      (refine hR _ (rat [] (hK := ⟨?_, rfl⟩)))
      rw [he2]
  · have d0 : decide (left - (l.length : Int) < 0) = true := by simp; omega
    have he2 : szR (Tm.wts l) left = -1 := by unfold szR; rw [if_neg (by omega)]
    refine fn_in ?_; refine acl_in Try.func51 rfl isfn_51 (Nat.le_of_ble_eq_true rfl) (fun R hR => ?_); rw [Try.results51] at hR; refine wg_run ?_; (simp only [Try.f51, go_sem, hw0, d0])
    (refine hR _ (rat [] (hK := ⟨?_, rfl⟩)))
    rw [he2]

/-! ### equality -/
theorem eqTmS (n : Nat) (ih : ∀ a b : Tm, a.size < n → AFn Try.prog 17 [.agg (teC a), .agg (teC b)] (.one (.sc (.bool (a.same b))))) (l m : List Tm) (hn : Tm.sizes l < n) (hlen : l.length < 4611686018427387904) :
    AFn Try.prog 59 [.one (.sl (teR l)), .one (.sl (teR m))] (.one (.sc (.bool (Tm.sames l m)))) := by
  rw [tesames_all2]
  by_cases hlm : l.length = m.length
  · have hb0 : ((l.length : Int) == (m.length : Int)) = true := by simp; omega
    refine fn_in ?_; refine acl_in Try.func59 rfl isfn_59 (Nat.le_of_ble_eq_true rfl) (fun R hR => ?_); rw [Try.results59] at hR; refine wg_run ?_; (simp only [Try.f59, go_sem, hb0, int_bne])
    refine wd_for [0, 1, 5] (fun k => [.one (.sl (teR l)), .one (.sl (teR m)), .one (.sc (.int .i64 (k : Nat)))]) (fun _ => [])
      (fun k => k ≤ l.length ∧ teall2 Tm.same (l.drop k) (m.drop k) = teall2 Tm.same l m) (fun k => l.length - k) 0 ⟨Nat.zero_le _, rfl⟩ (hat [] (hI := ⟨rfl, rfl⟩)) ?_
    rintro k ⟨hk, hs⟩ G hG
    refine wg_run ?_
    (simp only [go_sem])
    ((first | refine sp1 ?_ ?_ | refine sp2 ?_ ?_ | refine sp3 ?_ ?_ | refine sp4 ?_ ?_ | refine sp5 ?_ ?_ | refine sp6 ?_ ?_ | refine sp7 ?_ ?_) <;> intro hb) <;> (simp only [go_sem, hb])
    · have hk1 : k < l.length := by have := of_decide_eq_true hb; omega
      have hk2 : decide ((k : Int) < (m.length : Int)) = true := by simp; omega
      have hw1 := wrap_succ hk1 (by omega)
      rw [teall2_kid hk1 (by omega)] at hs
      have hc := ih (teKid l k) (teKid m k) (by rw [teKid_eq hk1]; have := tesizes_mem (List.getElem_mem hk1); omega)
      repeat' (first | (first | (simp only [go_sem, hb, hk2, hw1]) | (((first | refine sp1 ?_ ?_ | refine sp2 ?_ ?_ | refine sp3 ?_ ?_ | refine sp4 ?_ ?_ | refine sp5 ?_ ?_ | refine sp6 ?_ ?_ | refine sp7 ?_ ?_) <;> intro hb) <;> (simp only [go_sem, hb, hb, hk2, hw1])) | ((first | refine wm_done ?_ | refine wt_done ?_ | refine wg_run ?_ | refine fk ?_ ?_) <;> (simp only [go_sem, hb, hk2, hw1]))) | ((first | refine mx 6 [] follows ?_ | refine mx 5 [] follows ?_ | refine mx 4 [] follows ?_ | refine mx 3 [] follows ?_ | refine mx 2 [] follows ?_ | refine mx 1 [] follows ?_ | refine mx 0 [] follows ?_ | fail); (simp only [go_sem, hb, hk2])) | (first | refine cd (hc := hc) (hK := ?_) | refine cm (hc := hc) (hK := ?_) | refine ct (hc := hc) (hK := ?_)); (simp only [go_sem]))
      · exact hG (k + 1) _ _ ⟨by omega, by simpa [hb] using hs⟩ (by omega) (hat [] (hI := ⟨rfl, rfl⟩))
      · (refine hR _ (rat [] (hK := ⟨?_, rfl⟩)))
        simpa [hb] using hs
    · have hk1 : ¬ k < l.length := by have := of_decide_eq_false hb; omega
      rw [teall2_end hk1 hlm] at hs
      (refine hR _ (rat [] (hK := ⟨?_, rfl⟩)))
      rw [hs]
  · have hb0 : ((l.length : Int) == (m.length : Int)) = false := by simp; omega
    refine fn_in ?_; refine acl_in Try.func59 rfl isfn_59 (Nat.le_of_ble_eq_true rfl) (fun R hR => ?_); rw [Try.results59] at hR; refine wg_run ?_; (simp only [Try.f59, go_sem, hb0, int_bne])
    (refine hR _ (rat [] (hK := ⟨?_, rfl⟩)))
    rw [teall2_len hlm]

/-! ### copies from the law's types to the program's -/
theorem toTmS (n : Nat) (ih : ∀ t : Tm, t.size < n → AFn Try.prog 15 [.agg (teC t)] (.agg (teC t))) (l : List Tm) (hn : Tm.sizes l < n) (hlen : l.length < 1099511627776) :
    AFn Try.prog 54 [.one (.sl (teR l))] (.one (.sl (teR l))) := by
  have hcap : decide ((128 : Int) * (l.length : Int) ≤ 140737488355328 ∧ (l.length : Int) ≤ 140737488355328) = true := by simp; omega
  refine fn_in ?_; refine acl_in Try.func54 rfl isfn_54 (Nat.le_of_ble_eq_true rfl) (fun R hR => ?_); rw [Try.results54] at hR; refine wg_run ?_; (simp only [Try.f54, go_sem, hcap])
  rw [← teF_0 l]
  refine wd_for [0, 3, 4] (fun k => [.one (.sl (teR l)), .one (.row 9 0 l.length), .one (.sc (.int .i64 (k : Nat)))]) (fun k => [⟨9, 28, .mut, teF l k⟩])
    (fun k => k ≤ l.length) (fun k => l.length - k) 0 (Nat.zero_le _) (head_at [0] (by (simp only [go_sem]); first | done | rfl) (by (simp only [go_sem]); generalize treeRows _ = b; cases b <;> rfl) ⟨rfl, rfl⟩) ?_
  rintro k hk G hG
  refine wg_run ?_
  (simp only [go_sem])
  ((first | refine sp1 ?_ ?_ | refine sp2 ?_ ?_ | refine sp3 ?_ ?_ | refine sp4 ?_ ?_ | refine sp5 ?_ ?_ | refine sp6 ?_ ?_ | refine sp7 ?_ ?_) <;> intro hb) <;> (simp only [go_sem, hb])
  · have hk1 : k < l.length := by have := of_decide_eq_true hb; omega
    have hw1 := wrap_succ hk1 (by omega)
    have hc := ih (teKid l k) (by rw [teKid_eq hk1]; have := tesizes_mem (List.getElem_mem hk1); omega)
    have hkn : decide (k < l.length) = true := by simpa using hk1
    repeat' (first | (first | (simp only [go_sem, hb, hw1, hkn, teF_get hk1, teF_set hk1]) | (((first | refine sp1 ?_ ?_ | refine sp2 ?_ ?_ | refine sp3 ?_ ?_ | refine sp4 ?_ ?_ | refine sp5 ?_ ?_ | refine sp6 ?_ ?_ | refine sp7 ?_ ?_) <;> intro hb) <;> (simp only [go_sem, hb, hb, hw1, hkn, teF_get hk1, teF_set hk1])) | ((first | refine wm_done ?_ | refine wt_done ?_ | refine wg_run ?_ | refine fk ?_ ?_) <;> (simp only [go_sem, hb, hw1, hkn, teF_get hk1, teF_set hk1]))) | ((first | refine mx 6 [] follows ?_ | refine mx 5 [] follows ?_ | refine mx 4 [] follows ?_ | refine mx 3 [] follows ?_ | refine mx 2 [] follows ?_ | refine mx 1 [] follows ?_ | refine mx 0 [] follows ?_ | fail); (simp only [go_sem, hb, hkn, teF_get hk1, teF_set hk1])) | (first | refine cd (hc := hc) (hK := ?_) | refine cm (hc := hc) (hK := ?_) | refine ct (hc := hc) (hK := ?_)); (simp only [go_sem]))
    exact hG (k + 1) _ _ (by omega) (by omega) (head_at [0] (by (simp only [go_sem]); first | done | rfl) (by (simp only [go_sem]); generalize treeRows _ = b; cases b <;> rfl) ⟨rfl, rfl⟩)
  · have hk1 : k = l.length := by have := of_decide_eq_false hb; omega
    subst hk1
    rw [teF_end]
    (refine hR _ (rat [] (hK := ⟨?_, rfl⟩)))
    rfl

theorem szTm (n : Nat) : ∀ t : Tm, t.size < n → t.fits → ∀ left : Int, 0 ≤ left → left ≤ 1048576 → AFn Try.prog 13 [.agg (teC t), .one (.sc (.int .i64 left))] (.one (.sc (.int .i64 (szR t.wt left)))) := by
  induction n with
  | zero => intro t h; omega
  | succ n ih =>
    intro t h hf left h0 h1
    have hc := szTmS n ih t.kids (by cases t; simp only [Tm.size, Tm.kids] at *; omega) (by cases t; exact hf.2.2.2.1) (by cases t; exact hf.2.2.2.2)
    have hn : t.name.size ≤ 9223372036854775807 := by cases t; exact hf.1
    have hw : IntKind.i64.wrap (left - (t.name.size : Int)) = left - (t.name.size : Int) := IntWalk.i64_in _ (by omega)
    have e : t.wt = t.name.size + (t.type.wt + (t.frm.wt + Tm.wts t.kids)) := by cases t; rfl
    have a1 := szTy _ t.type (Nat.lt_succ_self _) (by cases t; exact hf.2.1)
    have a2 := szTy _ t.frm (Nat.lt_succ_self _) (by cases t; exact hf.2.2.1)
    clear ih
    by_cases c1 : (t.name.size : Int) ≤ left
    · have d1 : decide (left - (t.name.size : Int) < 0) = false := by simp; omega
      have b1 := a1 _ (by omega : 0 ≤ left - (t.name.size : Int)) (by omega)
      by_cases c2 : (t.type.wt : Int) ≤ left - (t.name.size : Int)
      · have e2 : szR t.type.wt (left - (t.name.size : Int)) = left - (t.name.size : Int) - (t.type.wt : Int) := by unfold szR; rw [if_pos c2]
        rw [e2] at b1
        have d2 : decide (left - (t.name.size : Int) - (t.type.wt : Int) < 0) = false := by simp; omega
        have b2 := a2 _ (by omega : 0 ≤ left - (t.name.size : Int) - (t.type.wt : Int)) (by omega)
        by_cases c3 : (t.frm.wt : Int) ≤ left - (t.name.size : Int) - (t.type.wt : Int)
        · have e3 : szR t.frm.wt (left - (t.name.size : Int) - (t.type.wt : Int)) = left - (t.name.size : Int) - (t.type.wt : Int) - (t.frm.wt : Int) := by unfold szR; rw [if_pos c3]
          rw [e3] at b2
          have d3 : decide (left - (t.name.size : Int) - (t.type.wt : Int) - (t.frm.wt : Int) < 0) = false := by simp; omega
          have b3 := hc _ (by omega : 0 ≤ left - (t.name.size : Int) - (t.type.wt : Int) - (t.frm.wt : Int)) (by omega)
          have e4 : szR t.wt left = szR (Tm.wts t.kids) (left - (t.name.size : Int) - (t.type.wt : Int) - (t.frm.wt : Int)) := by
            unfold szR; rw [e]; split <;> split <;> omega
          rw [e4]
          refine fn_in ?_; refine acl_in Try.func13 rfl isfn_13 (Nat.le_of_ble_eq_true rfl) (fun R hR => ?_); rw [Try.results13] at hR; refine wg_run ?_; (simp only [Try.f13, go_sem, hw, d1])
          (first | refine cd (hc := b1) (hK := ?_) | refine cm (hc := b1) (hK := ?_) | refine ct (hc := b1) (hK := ?_)); (simp only [go_sem])
          repeat' (first | (simp only [go_sem, d2]) | (((first | refine sp1 ?_ ?_ | refine sp2 ?_ ?_ | refine sp3 ?_ ?_ | refine sp4 ?_ ?_ | refine sp5 ?_ ?_ | refine sp6 ?_ ?_ | refine sp7 ?_ ?_) <;> intro hb) <;> (simp only [go_sem, hb, d2])) | ((first | refine wm_done ?_ | refine wt_done ?_ | refine wg_run ?_ | refine fk ?_ ?_) <;> (simp only [go_sem, d2])))
          (first | refine cd (hc := b2) (hK := ?_) | refine cm (hc := b2) (hK := ?_) | refine ct (hc := b2) (hK := ?_)); (simp only [go_sem])
          repeat' (first | (simp only [go_sem, d3]) | (((first | refine sp1 ?_ ?_ | refine sp2 ?_ ?_ | refine sp3 ?_ ?_ | refine sp4 ?_ ?_ | refine sp5 ?_ ?_ | refine sp6 ?_ ?_ | refine sp7 ?_ ?_) <;> intro hb) <;> (simp only [go_sem, hb, d3])) | ((first | refine wm_done ?_ | refine wt_done ?_ | refine wg_run ?_ | refine fk ?_ ?_) <;> (simp only [go_sem, d3])))
          (first | refine cd (hc := b3) (hK := ?_) | refine cm (hc := b3) (hK := ?_) | refine ct (hc := b3) (hK := ?_)); (simp only [go_sem])
          repeat' (first | (((first | refine sp1 ?_ ?_ | refine sp2 ?_ ?_ | refine sp3 ?_ ?_ | refine sp4 ?_ ?_ | refine sp5 ?_ ?_ | refine sp6 ?_ ?_ | refine sp7 ?_ ?_) <;> intro hb) <;> (simp only [go_sem, hb])) | ((first | refine wm_done ?_ | refine wt_done ?_ | refine wg_run ?_ | refine fk ?_ ?_) <;> (simp only [go_sem])))
          · (refine hR _ (rat [] (hK := ⟨?_, rfl⟩)))
            rw [szR_neg hb]
          · (refine hR _ (rat [] (hK := ⟨rfl, rfl⟩)))
        · have e3 : szR t.frm.wt (left - (t.name.size : Int) - (t.type.wt : Int)) = -1 := by unfold szR; rw [if_neg c3]
          rw [e3] at b2
          have e4 : szR t.wt left = -1 := by unfold szR; rw [e, if_neg (by omega)]
          rw [e4]
          refine fn_in ?_; refine acl_in Try.func13 rfl isfn_13 (Nat.le_of_ble_eq_true rfl) (fun R hR => ?_); rw [Try.results13] at hR; refine wg_run ?_; (simp only [Try.f13, go_sem, hw, d1])
          (first | refine cd (hc := b1) (hK := ?_) | refine cm (hc := b1) (hK := ?_) | refine ct (hc := b1) (hK := ?_)); (simp only [go_sem])
          repeat' (first | (simp only [go_sem, d2]) | (((first | refine sp1 ?_ ?_ | refine sp2 ?_ ?_ | refine sp3 ?_ ?_ | refine sp4 ?_ ?_ | refine sp5 ?_ ?_ | refine sp6 ?_ ?_ | refine sp7 ?_ ?_) <;> intro hb) <;> (simp only [go_sem, hb, d2])) | ((first | refine wm_done ?_ | refine wt_done ?_ | refine wg_run ?_ | refine fk ?_ ?_) <;> (simp only [go_sem, d2])))
          (first | refine cd (hc := b2) (hK := ?_) | refine cm (hc := b2) (hK := ?_) | refine ct (hc := b2) (hK := ?_)); (simp only [go_sem])
          repeat' (first | (((first | refine sp1 ?_ ?_ | refine sp2 ?_ ?_ | refine sp3 ?_ ?_ | refine sp4 ?_ ?_ | refine sp5 ?_ ?_ | refine sp6 ?_ ?_ | refine sp7 ?_ ?_) <;> intro hb) <;> (simp only [go_sem, hb])) | ((first | refine wm_done ?_ | refine wt_done ?_ | refine wg_run ?_ | refine fk ?_ ?_) <;> (simp only [go_sem])))
          (refine hR _ (rat [] (hK := ⟨rfl, rfl⟩)))
      · have e2 : szR t.type.wt (left - (t.name.size : Int)) = -1 := by unfold szR; rw [if_neg c2]
        rw [e2] at b1
        have e4 : szR t.wt left = -1 := by unfold szR; rw [e, if_neg (by omega)]
        rw [e4]
        refine fn_in ?_; refine acl_in Try.func13 rfl isfn_13 (Nat.le_of_ble_eq_true rfl) (fun R hR => ?_); rw [Try.results13] at hR; refine wg_run ?_; (simp only [Try.f13, go_sem, hw, d1])
        (first | refine cd (hc := b1) (hK := ?_) | refine cm (hc := b1) (hK := ?_) | refine ct (hc := b1) (hK := ?_)); (simp only [go_sem])
        repeat' (first | (((first | refine sp1 ?_ ?_ | refine sp2 ?_ ?_ | refine sp3 ?_ ?_ | refine sp4 ?_ ?_ | refine sp5 ?_ ?_ | refine sp6 ?_ ?_ | refine sp7 ?_ ?_) <;> intro hb) <;> (simp only [go_sem, hb])) | ((first | refine wm_done ?_ | refine wt_done ?_ | refine wg_run ?_ | refine fk ?_ ?_) <;> (simp only [go_sem])))
        (refine hR _ (rat [] (hK := ⟨rfl, rfl⟩)))
    · have d1 : decide (left - (t.name.size : Int) < 0) = true := by simp; omega
      have e4 : szR t.wt left = -1 := by unfold szR; rw [e, if_neg (by omega)]
      rw [e4]
      refine fn_in ?_; refine acl_in Try.func13 rfl isfn_13 (Nat.le_of_ble_eq_true rfl) (fun R hR => ?_); rw [Try.results13] at hR; refine wg_run ?_; (simp only [Try.f13, go_sem, hw, d1])
      (refine hR _ (rat [] (hK := ⟨rfl, rfl⟩)))
theorem eqTm (n : Nat) (hn : n ≤ 4611686018427387904) : ∀ a b : Tm, a.size < n → AFn Try.prog 17 [.agg (teC a), .agg (teC b)] (.one (.sc (.bool (a.same b)))) := by
  induction n with
  | zero => intro a b h; omega
  | succ n ih =>
    intro a b h
    have hc := eqTmS n (ih (by omega)) a.kids b.kids (by cases a; simp only [Tm.size, Tm.kids] at *; omega) (by have := telen_lt a; omega)
    have a1 := eqTy (n + 1) hn a.type b.type (by cases a; simp only [Tm.size, Tm.type] at *; omega)
    have a2 := eqTy (n + 1) hn a.frm b.frm (by cases a; simp only [Tm.size, Tm.frm] at *; omega)
    have e : a.same b = (a.kind == b.kind && (a.name.toList == b.name.toList && (a.num == b.num && (a.type.same b.type && (a.frm.same b.frm && (a.label == b.label && Tm.sames a.kids b.kids)))))) := by cases a; cases b; rfl
    rw [e]
    clear e ih
    refine fn_in ?_; refine acl_in Try.func17 rfl isfn_17 (Nat.le_of_ble_eq_true rfl) (fun R hR => ?_); rw [Try.results17] at hR; refine wg_run ?_; (simp only [Try.f17, go_sem])
    repeat' (first | (first | (simp only [go_sem, int_bne]) | (((first | refine sp1 ?_ ?_ | refine sp2 ?_ ?_ | refine sp3 ?_ ?_ | refine sp4 ?_ ?_ | refine sp5 ?_ ?_ | refine sp6 ?_ ?_ | refine sp7 ?_ ?_) <;> intro hb) <;> (simp only [go_sem, hb, int_bne])) | ((first | refine wm_done ?_ | refine wt_done ?_ | refine wg_run ?_ | refine fk ?_ ?_) <;> (simp only [go_sem, int_bne]))) | (first | refine cd (hc := a1) (hK := ?_) | refine cm (hc := a1) (hK := ?_) | refine ct (hc := a1) (hK := ?_)); (simp only [go_sem]) | (first | refine cd (hc := a2) (hK := ?_) | refine cm (hc := a2) (hK := ?_) | refine ct (hc := a2) (hK := ?_)); (simp only [go_sem]) | (first | refine cd (hc := hc) (hK := ?_) | refine cm (hc := hc) (hK := ?_) | refine ct (hc := hc) (hK := ?_)); (simp only [go_sem]) | ((first | refine mx 6 [] follows ?_ | refine mx 5 [] follows ?_ | refine mx 4 [] follows ?_ | refine mx 3 [] follows ?_ | refine mx 2 [] follows ?_ | refine mx 1 [] follows ?_ | refine mx 0 [] follows ?_ | fail); (simp only [go_sem])))
    all_goals (refine hR _ (rat [] (hK := ⟨?_, rfl⟩)))
    all_goals simp_all
theorem toTm (n : Nat) (hn : n ≤ 1099511627776) : ∀ t : Tm, t.size < n → AFn Try.prog 15 [.agg (teC t)] (.agg (teC t)) := by
  induction n with
  | zero => intro t h; omega
  | succ n ih =>
    intro t h
    have hc := toTmS n (ih (by omega)) t.kids (by cases t; simp only [Tm.size, Tm.kids] at *; omega) (by have := telen_lt t; omega)
    have a1 := toTy (n + 1) hn t.type (by cases t; simp only [Tm.size, Tm.type] at *; omega)
    have a2 := toTy (n + 1) hn t.frm (by cases t; simp only [Tm.size, Tm.frm] at *; omega)
    refine fn_in ?_; refine acl_in Try.func15 rfl isfn_15 (Nat.le_of_ble_eq_true rfl) (fun R hR => ?_); rw [Try.results15] at hR; refine wg_run ?_; (simp only [Try.f15, go_sem])
    repeat' (first | (first | (((first | refine sp1 ?_ ?_ | refine sp2 ?_ ?_ | refine sp3 ?_ ?_ | refine sp4 ?_ ?_ | refine sp5 ?_ ?_ | refine sp6 ?_ ?_ | refine sp7 ?_ ?_) <;> intro hb) <;> (simp only [go_sem, hb])) | ((first | refine wm_done ?_ | refine wt_done ?_ | refine wg_run ?_ | refine fk ?_ ?_) <;> (simp only [go_sem]))) | (first | refine cd (hc := a1) (hK := ?_) | refine cm (hc := a1) (hK := ?_) | refine ct (hc := a1) (hK := ?_)); (simp only [go_sem]) | (first | refine cd (hc := a2) (hK := ?_) | refine cm (hc := a2) (hK := ?_) | refine ct (hc := a2) (hK := ?_)); (simp only [go_sem]) | (first | refine cd (hc := hc) (hK := ?_) | refine cm (hc := hc) (hK := ?_) | refine ct (hc := hc) (hK := ?_)); (simp only [go_sem]) | ((first | refine mx 6 [] follows ?_ | refine mx 5 [] follows ?_ | refine mx 4 [] follows ?_ | refine mx 3 [] follows ?_ | refine mx 2 [] follows ?_ | refine mx 1 [] follows ?_ | refine mx 0 [] follows ?_ | fail); (simp only [go_sem])))
    (refine hR _ (rat [] (hK := ⟨?_, rfl⟩)))
    rw [teC_eq]
end Go.Proofs.Ytnaebafafhamjaa
