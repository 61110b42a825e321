/- Texts of the proof, one behind another. -/
import Derived.Test.YtjmicohbnpbemaaGreatKE21
import Derived.Test.YtjmicohbnpbemaaGreatKE23
import Derived.Test.YtjmicohbnpbemaaGreatKE24
set_option linter.unusedSimpArgs false
set_option linter.unusedVariables false
/- Steps of terms with casts, in the reference. On shadows. -/
namespace Go.Proofs.YtjmicohbnpbemaaGreat
open Go.RowKit Go.Proofs.Sh Go.Proofs.Grad
set_option maxRecDepth 100000
set_option maxHeartbeats 8000000
end Go.Proofs.YtjmicohbnpbemaaGreat
/- Evaluation of terms with casts, in the program and in the reference. On shadows. -/
namespace Go.Proofs.YtjmicohbnpbemaaGreat
open Go.RowKit Go.Proofs.Sh Go.Proofs.Grad
set_option maxRecDepth 100000
set_option maxHeartbeats 8000000
theorem tm_nodes40 (e : E) : e.wf = true → e.tm.size ≤ 40 * e.nodes := by
  have hno : noTy.size = 1 := rfl
  induction e with
  | var _ | num _ | tru | fls => intro _; simp only [E.tm, nd, Tm.size, Tm.sizes, hno, E.nodes]; omega
  | lam x t a ih => intro hw; simp only [E.wf, Bool.and_eq_true, decide_eq_true_eq] at hw; have := ih hw.2.2; have := (Ty.valid_16 (t := t.ty) (by rw [T.valid_ty]; simpa using hw.2.1)); simp only [E.tm, nd, Tm.size, Tm.sizes, hno, E.nodes]; omega
  | app a b iha ihb | add a b iha ihb | less a b iha ihb | pair a b iha ihb => intro hw; simp only [E.wf, Bool.and_eq_true] at hw; have := iha hw.1; have := ihb hw.2; simp only [E.tm, nd, Tm.size, Tm.sizes, hno, E.nodes]; omega
  | ite a b c iha ihb ihc => intro hw; simp only [E.wf, Bool.and_eq_true] at hw; have := iha hw.1; have := ihb hw.2.1; have := ihc hw.2.2; simp only [E.tm, nd, Tm.size, Tm.sizes, hno, E.nodes]; omega
  | fst a ih | snd a ih => intro hw; have := ih hw; simp only [E.tm, nd, Tm.size, Tm.sizes, hno, E.nodes]; omega
  | asc t a ih => intro hw; simp only [E.wf, Bool.and_eq_true, decide_eq_true_eq] at hw; have := ih hw.2; have := (Ty.valid_16 (t := t.ty) (by rw [T.valid_ty]; simpa using hw.1)); simp only [E.tm, nd, Tm.size, Tm.sizes, hno, E.nodes]; omega
  | cast s t l a ih => intro hw; simp only [E.wf, Bool.and_eq_true, decide_eq_true_eq] at hw; have := ih hw.2.2.2; have := (Ty.valid_16 (t := t.ty) (by rw [T.valid_ty]; simpa using hw.1.2)); have := (Ty.valid_16 (t := s.ty) (by rw [T.valid_ty]; simpa using hw.1.1)); simp only [E.tm, nd, Tm.size, Tm.sizes, hno, E.nodes]; omega
theorem okC_small {e : E} (h : e.okC = true) : e.tm.size < 100000000 := by
  simp only [E.okC, Bool.and_eq_true, decide_eq_true_eq] at h
  have := tm_nodes40 e h.1
  omega
def scT (r : SC) : AV := .tup [.agg (teC r.tm), .one (.sc (.int .i64 r.code)), .one (.sc (.int .i64 r.lab))]
def badT : AV := .tup [.agg (teC tm0), .one (.sc (.int .i64 3)), .one (.sc (.int .i64 0))]
theorem iStepBad (t : Tm) (h : t.castV = false) : AFn Tryz.prog 21 [.agg (teC t)] badT := by
  have hv := iCastV t
  rw [h] at hv
  unfold badT
  simp only [tm0, noTy]
  refine fn_in ?_; refine acl_in Tryz.func21 rfl isfn_21 (Nat.le_of_ble_eq_true rfl) (fun R hR => ?_); rw [Tryz.results21] at hR; refine wg_run ?_; (simp only [Tryz.f21, go_sem])
  repeat' (first | (first | (simp only [go_sem, int_bne]) | (((first | apply sp1 | apply sp2 | apply sp3 | apply sp4 | apply sp5 | apply sp6 | apply sp7) <;> intro hb) <;> (simp only [go_sem, hb, int_bne])) | ((first | apply wm_done | apply wt_done | apply wg_run | refine fk ?_ ?_) <;> (simp only [go_sem, int_bne]))) | (first | refine cdq ?_ (hc := hv) | refine cmq ?_ (hc := hv) | refine ctq ?_ (hc := hv)); (simp only [go_sem]) | fail)
  all_goals (refine hR _ ?_; refine rat [] (hK := ⟨rfl, rfl⟩))
theorem iStepCast (e : E) (h : e.okC = true) : AFn Tryz.prog 21 [.agg (teC e.tm)] (scT e.sc) := by
  have hz := okC_small h
  have hv := iCastV e.tm
  rw [E.castV_tm, h] at hv
  have hval := iIsVal 100000000 (by omega) e.tm hz
  rw [E.val_tm] at hval
  simp only [E.okC, Bool.and_eq_true] at h
  have ho := iOwn e h.1
  unfold E.sc
  cases ev : e.val
  · rw [ev] at hval
    have hs := iStep e h.1 h.2.1 ev hz
    simp only [stT] at hs
    simp only []
    cases es : e.step with
    | took x =>
      rw [E.so_took e x ev es, es] at hs
      obtain ⟨xw, xn⟩ := E.step_wf h.1 h.2.1 es
      have hv2 := iCastV x.tm
      rw [E.castV_tm] at hv2
      have ho2 := iOwn x xw
      simp only [SR.code, SR.lab] at hs
      simp only []
      cases eo : x.okC
      all_goals
        rw [eo] at hv2
        simp only [scT, SC.tm, SC.code, SC.lab]
        (try simp only [tm0, noTy])
        refine fn_in ?_; refine acl_in Tryz.func21 rfl isfn_21 (Nat.le_of_ble_eq_true rfl) (fun R hR => ?_); rw [Tryz.results21] at hR; refine wg_run ?_; (simp only [Tryz.f21, go_sem])
        repeat' (first | (first | (simp only [go_sem, int_bne]) | (((first | apply sp1 | apply sp2 | apply sp3 | apply sp4 | apply sp5 | apply sp6 | apply sp7) <;> intro hb) <;> (simp only [go_sem, hb, int_bne])) | ((first | apply wm_done | apply wt_done | apply wg_run | refine fk ?_ ?_) <;> (simp only [go_sem, int_bne]))) | (first | refine cdq ?_ (hc := hv) | refine cmq ?_ (hc := hv) | refine ctq ?_ (hc := hv)); (simp only [go_sem]) | (first | refine cdq ?_ (hc := hval) | refine cmq ?_ (hc := hval) | refine ctq ?_ (hc := hval)); (simp only [go_sem]) | (first | refine cdq ?_ (hc := hs) | refine cmq ?_ (hc := hs) | refine ctq ?_ (hc := hs)); (simp only [go_sem]) | (first | refine cdq ?_ (hc := hv2) | refine cmq ?_ (hc := hv2) | refine ctq ?_ (hc := hv2)); (simp only [go_sem]) | (first | refine cdq ?_ (hc := ho2) | refine cmq ?_ (hc := ho2) | refine ctq ?_ (hc := ho2)); (simp only [go_sem]) | fail)
        all_goals (refine hR _ ?_; refine rat [] (hK := ⟨rfl, rfl⟩))
    | blame l =>
      rw [es] at hs
      simp only [SR.code, SR.lab] at hs
      simp only [scT, SC.tm, SC.code, SC.lab]
      simp only [tm0, noTy]
      refine fn_in ?_; refine acl_in Tryz.func21 rfl isfn_21 (Nat.le_of_ble_eq_true rfl) (fun R hR => ?_); rw [Tryz.results21] at hR; refine wg_run ?_; (simp only [Tryz.f21, go_sem])
      repeat' (first | (first | (simp only [go_sem, int_bne]) | (((first | apply sp1 | apply sp2 | apply sp3 | apply sp4 | apply sp5 | apply sp6 | apply sp7) <;> intro hb) <;> (simp only [go_sem, hb, int_bne])) | ((first | apply wm_done | apply wt_done | apply wg_run | refine fk ?_ ?_) <;> (simp only [go_sem, int_bne]))) | (first | refine cdq ?_ (hc := hv) | refine cmq ?_ (hc := hv) | refine ctq ?_ (hc := hv)); (simp only [go_sem]) | (first | refine cdq ?_ (hc := hval) | refine cmq ?_ (hc := hval) | refine ctq ?_ (hc := hval)); (simp only [go_sem]) | (first | refine cdq ?_ (hc := hs) | refine cmq ?_ (hc := hs) | refine ctq ?_ (hc := hs)); (simp only [go_sem]) | fail)
      all_goals (refine hR _ ?_; refine rat [] (hK := ⟨rfl, rfl⟩))
    | stuck =>
      rw [es] at hs
      simp only [SR.code, SR.lab] at hs
      simp only [scT, SC.tm, SC.code, SC.lab]
      simp only [tm0, noTy]
      refine fn_in ?_; refine acl_in Tryz.func21 rfl isfn_21 (Nat.le_of_ble_eq_true rfl) (fun R hR => ?_); rw [Tryz.results21] at hR; refine wg_run ?_; (simp only [Tryz.f21, go_sem])
      repeat' (first | (first | (simp only [go_sem, int_bne]) | (((first | apply sp1 | apply sp2 | apply sp3 | apply sp4 | apply sp5 | apply sp6 | apply sp7) <;> intro hb) <;> (simp only [go_sem, hb, int_bne])) | ((first | apply wm_done | apply wt_done | apply wg_run | refine fk ?_ ?_) <;> (simp only [go_sem, int_bne]))) | (first | refine cdq ?_ (hc := hv) | refine cmq ?_ (hc := hv) | refine ctq ?_ (hc := hv)); (simp only [go_sem]) | (first | refine cdq ?_ (hc := hval) | refine cmq ?_ (hc := hval) | refine ctq ?_ (hc := hval)); (simp only [go_sem]) | (first | refine cdq ?_ (hc := hs) | refine cmq ?_ (hc := hs) | refine ctq ?_ (hc := hs)); (simp only [go_sem]) | fail)
      all_goals (refine hR _ ?_; refine rat [] (hK := ⟨rfl, rfl⟩))
  · rw [ev] at hval
    simp only [scT, SC.tm, SC.code, SC.lab]
    refine fn_in ?_; refine acl_in Tryz.func21 rfl isfn_21 (Nat.le_of_ble_eq_true rfl) (fun R hR => ?_); rw [Tryz.results21] at hR; refine wg_run ?_; (simp only [Tryz.f21, go_sem])
    repeat' (first | (first | (simp only [go_sem, int_bne]) | (((first | apply sp1 | apply sp2 | apply sp3 | apply sp4 | apply sp5 | apply sp6 | apply sp7) <;> intro hb) <;> (simp only [go_sem, hb, int_bne])) | ((first | apply wm_done | apply wt_done | apply wg_run | refine fk ?_ ?_) <;> (simp only [go_sem, int_bne]))) | (first | refine cdq ?_ (hc := hv) | refine cmq ?_ (hc := hv) | refine ctq ?_ (hc := hv)); (simp only [go_sem]) | (first | refine cdq ?_ (hc := hval) | refine cmq ?_ (hc := hval) | refine ctq ?_ (hc := hval)); (simp only [go_sem]) | (first | refine cdq ?_ (hc := ho) | refine cmq ?_ (hc := ho) | refine ctq ?_ (hc := ho)); (simp only [go_sem]) | fail)
    all_goals (refine hR _ ?_; refine rat [] (hK := ⟨rfl, rfl⟩))
end Go.Proofs.YtjmicohbnpbemaaGreat
/- Casts that are nested directly. No program, no world. -/
namespace Go.Proofs.Grad
end Go.Proofs.Grad
