/- Texts of the proof, one behind another. -/
import Derived.Test.YtjmicohbnpbemaaGreatKF21
import Derived.Test.YtjmicohbnpbemaaGreatKF23
import Derived.Test.YtjmicohbnpbemaaGreatKF24
set_option linter.unusedSimpArgs false
set_option linter.unusedVariables false
/- Steps of terms with casts, in the reference. On shadows. -/
namespace Go.Proofs.YtjmicohbnpbemaaGreat
open Go.RowKit Go.Proofs.Sh Go.Proofs.Grad
set_option maxRecDepth 100000
set_option maxHeartbeats 8000000
theorem sStep (e : E) : e.wf = true → e.noA = true → e.val = false → e.tm.size < 100000000 → AFn Tryz.prog 58 [.agg (teC e.tm)] (srS e.step) := by
  induction e with
  | app a b iha ihb =>
    intro hw hn hv hz
    have hr := sReduce (.app a b) hw hz rfl
    simp only [E.wf, E.noA, Bool.and_eq_true] at hw hn
    simp only [E.tm, nd, Tm.size, Tm.sizes] at hz
    have va := sIsVal a hw.1
    have vb := sIsVal b hw.2
    rw [E.val_tm] at va vb
    simp only [E.step]
    cases ea : a.val
    · rw [ea] at va
      have h1 := iha hw.1 hn.1 ea (by omega)
      cases es : a.step
      all_goals
        rw [es] at h1
        simp only [SR.map, srS, SR.tm, SR.code, SR.lab] at h1 ⊢
        simp only [E.tm, nd]
        refine fn_in ?_; refine acl_in Tryz.func58 rfl isfn_58 (Nat.le_of_ble_eq_true rfl) (fun R hR => ?_); rw [Tryz.results58] at hR; refine wg_run ?_; (simp only [Tryz.f58, go_sem])
        repeat' (first | (first | (simp only [go_sem, int_bne]) | (((first | apply sp1 | apply sp2 | apply sp3 | apply sp4 | apply sp5 | apply sp6 | apply sp7) <;> intro hb) <;> (simp only [go_sem, hb, int_bne])) | ((first | apply wm_done | apply wt_done | apply wg_run | refine fk ?_ ?_) <;> (simp only [go_sem, int_bne]))) | (first | (refine wl_next (wg_run ?_); (simp only [go_sem])) | refine wd_rounds 6 ?_) | ((first | refine mxq6 [] ?_ | refine mxq5 [] ?_ | refine mxq4 [] ?_ | refine mxq3 [] ?_ | refine mxq2 [] ?_ | refine mxq1 [] ?_ | refine mxq0 [] ?_ | fail); (simp only [go_sem, int_bne])) | (first | refine cdq ?_ (hc := va) | refine cmq ?_ (hc := va) | refine ctq ?_ (hc := va)); (simp only [go_sem]) | (first | refine cdq ?_ (hc := h1) | refine cmq ?_ (hc := h1) | refine ctq ?_ (hc := h1)); (simp only [go_sem]) | fail)
        all_goals (refine hR _ ?_; refine rat [] (hK := ⟨rfl, rfl⟩))
    · rw [ea] at va
      simp only []
      cases eb : b.val
      · rw [eb] at vb
        have h1 := ihb hw.2 hn.2 eb (by omega)
        cases es : b.step
        all_goals
          rw [es] at h1
          simp only [SR.map, srS, SR.tm, SR.code, SR.lab] at h1 ⊢
          simp only [E.tm, nd]
          refine fn_in ?_; refine acl_in Tryz.func58 rfl isfn_58 (Nat.le_of_ble_eq_true rfl) (fun R hR => ?_); rw [Tryz.results58] at hR; refine wg_run ?_; (simp only [Tryz.f58, go_sem])
          repeat' (first | (first | (simp only [go_sem, int_bne]) | (((first | apply sp1 | apply sp2 | apply sp3 | apply sp4 | apply sp5 | apply sp6 | apply sp7) <;> intro hb) <;> (simp only [go_sem, hb, int_bne])) | ((first | apply wm_done | apply wt_done | apply wg_run | refine fk ?_ ?_) <;> (simp only [go_sem, int_bne]))) | (first | (refine wl_next (wg_run ?_); (simp only [go_sem])) | refine wd_rounds 6 ?_) | ((first | refine mxq6 [] ?_ | refine mxq5 [] ?_ | refine mxq4 [] ?_ | refine mxq3 [] ?_ | refine mxq2 [] ?_ | refine mxq1 [] ?_ | refine mxq0 [] ?_ | fail); (simp only [go_sem, int_bne])) | (first | refine cdq ?_ (hc := va) | refine cmq ?_ (hc := va) | refine ctq ?_ (hc := va)); (simp only [go_sem]) | (first | refine cdq ?_ (hc := vb) | refine cmq ?_ (hc := vb) | refine ctq ?_ (hc := vb)); (simp only [go_sem]) | (first | refine cdq ?_ (hc := h1) | refine cmq ?_ (hc := h1) | refine ctq ?_ (hc := h1)); (simp only [go_sem]) | fail)
          all_goals (refine hR _ ?_; refine rat [] (hK := ⟨rfl, rfl⟩))
      · rw [eb] at vb
        rw [red_app] at hr
        simp only []
        simp only [E.tm, nd] at hr ⊢
        unfold srS at hr ⊢
        refine fn_in ?_; refine acl_in Tryz.func58 rfl isfn_58 (Nat.le_of_ble_eq_true rfl) (fun R hR => ?_); rw [Tryz.results58] at hR; refine wg_run ?_; (simp only [Tryz.f58, go_sem])
        repeat' (first | (first | (simp only [go_sem, int_bne]) | (((first | apply sp1 | apply sp2 | apply sp3 | apply sp4 | apply sp5 | apply sp6 | apply sp7) <;> intro hb) <;> (simp only [go_sem, hb, int_bne])) | ((first | apply wm_done | apply wt_done | apply wg_run | refine fk ?_ ?_) <;> (simp only [go_sem, int_bne]))) | (first | (refine wl_next (wg_run ?_); (simp only [go_sem])) | refine wd_rounds 6 ?_) | ((first | refine mxq6 [] ?_ | refine mxq5 [] ?_ | refine mxq4 [] ?_ | refine mxq3 [] ?_ | refine mxq2 [] ?_ | refine mxq1 [] ?_ | refine mxq0 [] ?_ | fail); (simp only [go_sem, int_bne])) | (first | refine cdq ?_ (hc := va) | refine cmq ?_ (hc := va) | refine ctq ?_ (hc := va)); (simp only [go_sem]) | (first | refine cdq ?_ (hc := vb) | refine cmq ?_ (hc := vb) | refine ctq ?_ (hc := vb)); (simp only [go_sem]) | (first | refine cdq ?_ (hc := hr) | refine cmq ?_ (hc := hr) | refine ctq ?_ (hc := hr)); (simp only [go_sem]) | fail)
        all_goals (refine hR _ ?_; refine rat [] (hK := ⟨rfl, rfl⟩))
  | add a b iha ihb =>
    intro hw hn hv hz
    have hr := sReduce (.add a b) hw hz rfl
    simp only [E.wf, E.noA, Bool.and_eq_true] at hw hn
    simp only [E.tm, nd, Tm.size, Tm.sizes] at hz
    have va := sIsVal a hw.1
    have vb := sIsVal b hw.2
    rw [E.val_tm] at va vb
    simp only [E.step]
    cases ea : a.val
    · rw [ea] at va
      have h1 := iha hw.1 hn.1 ea (by omega)
      cases es : a.step
      all_goals
        rw [es] at h1
        simp only [SR.map, srS, SR.tm, SR.code, SR.lab] at h1 ⊢
        simp only [E.tm, nd]
        refine fn_in ?_; refine acl_in Tryz.func58 rfl isfn_58 (Nat.le_of_ble_eq_true rfl) (fun R hR => ?_); rw [Tryz.results58] at hR; refine wg_run ?_; (simp only [Tryz.f58, go_sem])
        repeat' (first | (first | (simp only [go_sem, int_bne]) | (((first | apply sp1 | apply sp2 | apply sp3 | apply sp4 | apply sp5 | apply sp6 | apply sp7) <;> intro hb) <;> (simp only [go_sem, hb, int_bne])) | ((first | apply wm_done | apply wt_done | apply wg_run | refine fk ?_ ?_) <;> (simp only [go_sem, int_bne]))) | (first | (refine wl_next (wg_run ?_); (simp only [go_sem])) | refine wd_rounds 6 ?_) | ((first | refine mxq6 [] ?_ | refine mxq5 [] ?_ | refine mxq4 [] ?_ | refine mxq3 [] ?_ | refine mxq2 [] ?_ | refine mxq1 [] ?_ | refine mxq0 [] ?_ | fail); (simp only [go_sem, int_bne])) | (first | refine cdq ?_ (hc := va) | refine cmq ?_ (hc := va) | refine ctq ?_ (hc := va)); (simp only [go_sem]) | (first | refine cdq ?_ (hc := h1) | refine cmq ?_ (hc := h1) | refine ctq ?_ (hc := h1)); (simp only [go_sem]) | fail)
        all_goals (refine hR _ ?_; refine rat [] (hK := ⟨rfl, rfl⟩))
    · rw [ea] at va
      simp only []
      cases eb : b.val
      · rw [eb] at vb
        have h1 := ihb hw.2 hn.2 eb (by omega)
        cases es : b.step
        all_goals
          rw [es] at h1
          simp only [SR.map, srS, SR.tm, SR.code, SR.lab] at h1 ⊢
          simp only [E.tm, nd]
          refine fn_in ?_; refine acl_in Tryz.func58 rfl isfn_58 (Nat.le_of_ble_eq_true rfl) (fun R hR => ?_); rw [Tryz.results58] at hR; refine wg_run ?_; (simp only [Tryz.f58, go_sem])
          repeat' (first | (first | (simp only [go_sem, int_bne]) | (((first | apply sp1 | apply sp2 | apply sp3 | apply sp4 | apply sp5 | apply sp6 | apply sp7) <;> intro hb) <;> (simp only [go_sem, hb, int_bne])) | ((first | apply wm_done | apply wt_done | apply wg_run | refine fk ?_ ?_) <;> (simp only [go_sem, int_bne]))) | (first | (refine wl_next (wg_run ?_); (simp only [go_sem])) | refine wd_rounds 6 ?_) | ((first | refine mxq6 [] ?_ | refine mxq5 [] ?_ | refine mxq4 [] ?_ | refine mxq3 [] ?_ | refine mxq2 [] ?_ | refine mxq1 [] ?_ | refine mxq0 [] ?_ | fail); (simp only [go_sem, int_bne])) | (first | refine cdq ?_ (hc := va) | refine cmq ?_ (hc := va) | refine ctq ?_ (hc := va)); (simp only [go_sem]) | (first | refine cdq ?_ (hc := vb) | refine cmq ?_ (hc := vb) | refine ctq ?_ (hc := vb)); (simp only [go_sem]) | (first | refine cdq ?_ (hc := h1) | refine cmq ?_ (hc := h1) | refine ctq ?_ (hc := h1)); (simp only [go_sem]) | fail)
          all_goals (refine hR _ ?_; refine rat [] (hK := ⟨rfl, rfl⟩))
      · rw [eb] at vb
        rw [red_add] at hr
        simp only []
        simp only [E.tm, nd] at hr ⊢
        unfold srS at hr ⊢
        refine fn_in ?_; refine acl_in Tryz.func58 rfl isfn_58 (Nat.le_of_ble_eq_true rfl) (fun R hR => ?_); rw [Tryz.results58] at hR; refine wg_run ?_; (simp only [Tryz.f58, go_sem])
        repeat' (first | (first | (simp only [go_sem, int_bne]) | (((first | apply sp1 | apply sp2 | apply sp3 | apply sp4 | apply sp5 | apply sp6 | apply sp7) <;> intro hb) <;> (simp only [go_sem, hb, int_bne])) | ((first | apply wm_done | apply wt_done | apply wg_run | refine fk ?_ ?_) <;> (simp only [go_sem, int_bne]))) | (first | (refine wl_next (wg_run ?_); (simp only [go_sem])) | refine wd_rounds 6 ?_) | ((first | refine mxq6 [] ?_ | refine mxq5 [] ?_ | refine mxq4 [] ?_ | refine mxq3 [] ?_ | refine mxq2 [] ?_ | refine mxq1 [] ?_ | refine mxq0 [] ?_ | fail); (simp only [go_sem, int_bne])) | (first | refine cdq ?_ (hc := va) | refine cmq ?_ (hc := va) | refine ctq ?_ (hc := va)); (simp only [go_sem]) | (first | refine cdq ?_ (hc := vb) | refine cmq ?_ (hc := vb) | refine ctq ?_ (hc := vb)); (simp only [go_sem]) | (first | refine cdq ?_ (hc := hr) | refine cmq ?_ (hc := hr) | refine ctq ?_ (hc := hr)); (simp only [go_sem]) | fail)
        all_goals (refine hR _ ?_; refine rat [] (hK := ⟨rfl, rfl⟩))
  | less a b iha ihb =>
    intro hw hn hv hz
    have hr := sReduce (.less a b) hw hz rfl
    simp only [E.wf, E.noA, Bool.and_eq_true] at hw hn
    simp only [E.tm, nd, Tm.size, Tm.sizes] at hz
    have va := sIsVal a hw.1
    have vb := sIsVal b hw.2
    rw [E.val_tm] at va vb
    simp only [E.step]
    cases ea : a.val
    · rw [ea] at va
      have h1 := iha hw.1 hn.1 ea (by omega)
      cases es : a.step
      all_goals
        rw [es] at h1
        simp only [SR.map, srS, SR.tm, SR.code, SR.lab] at h1 ⊢
        simp only [E.tm, nd]
        refine fn_in ?_; refine acl_in Tryz.func58 rfl isfn_58 (Nat.le_of_ble_eq_true rfl) (fun R hR => ?_); rw [Tryz.results58] at hR; refine wg_run ?_; (simp only [Tryz.f58, go_sem])
        repeat' (first | (first | (simp only [go_sem, int_bne]) | (((first | apply sp1 | apply sp2 | apply sp3 | apply sp4 | apply sp5 | apply sp6 | apply sp7) <;> intro hb) <;> (simp only [go_sem, hb, int_bne])) | ((first | apply wm_done | apply wt_done | apply wg_run | refine fk ?_ ?_) <;> (simp only [go_sem, int_bne]))) | (first | (refine wl_next (wg_run ?_); (simp only [go_sem])) | refine wd_rounds 6 ?_) | ((first | refine mxq6 [] ?_ | refine mxq5 [] ?_ | refine mxq4 [] ?_ | refine mxq3 [] ?_ | refine mxq2 [] ?_ | refine mxq1 [] ?_ | refine mxq0 [] ?_ | fail); (simp only [go_sem, int_bne])) | (first | refine cdq ?_ (hc := va) | refine cmq ?_ (hc := va) | refine ctq ?_ (hc := va)); (simp only [go_sem]) | (first | refine cdq ?_ (hc := h1) | refine cmq ?_ (hc := h1) | refine ctq ?_ (hc := h1)); (simp only [go_sem]) | fail)
        all_goals (refine hR _ ?_; refine rat [] (hK := ⟨rfl, rfl⟩))
    · rw [ea] at va
      simp only []
      cases eb : b.val
      · rw [eb] at vb
        have h1 := ihb hw.2 hn.2 eb (by omega)
        cases es : b.step
        all_goals
          rw [es] at h1
          simp only [SR.map, srS, SR.tm, SR.code, SR.lab] at h1 ⊢
          simp only [E.tm, nd]
          refine fn_in ?_; refine acl_in Tryz.func58 rfl isfn_58 (Nat.le_of_ble_eq_true rfl) (fun R hR => ?_); rw [Tryz.results58] at hR; refine wg_run ?_; (simp only [Tryz.f58, go_sem])
          repeat' (first | (first | (simp only [go_sem, int_bne]) | (((first | apply sp1 | apply sp2 | apply sp3 | apply sp4 | apply sp5 | apply sp6 | apply sp7) <;> intro hb) <;> (simp only [go_sem, hb, int_bne])) | ((first | apply wm_done | apply wt_done | apply wg_run | refine fk ?_ ?_) <;> (simp only [go_sem, int_bne]))) | (first | (refine wl_next (wg_run ?_); (simp only [go_sem])) | refine wd_rounds 6 ?_) | ((first | refine mxq6 [] ?_ | refine mxq5 [] ?_ | refine mxq4 [] ?_ | refine mxq3 [] ?_ | refine mxq2 [] ?_ | refine mxq1 [] ?_ | refine mxq0 [] ?_ | fail); (simp only [go_sem, int_bne])) | (first | refine cdq ?_ (hc := va) | refine cmq ?_ (hc := va) | refine ctq ?_ (hc := va)); (simp only [go_sem]) | (first | refine cdq ?_ (hc := vb) | refine cmq ?_ (hc := vb) | refine ctq ?_ (hc := vb)); (simp only [go_sem]) | (first | refine cdq ?_ (hc := h1) | refine cmq ?_ (hc := h1) | refine ctq ?_ (hc := h1)); (simp only [go_sem]) | fail)
          all_goals (refine hR _ ?_; refine rat [] (hK := ⟨rfl, rfl⟩))
      · rw [eb] at vb
        rw [red_less] at hr
        simp only []
        simp only [E.tm, nd] at hr ⊢
        unfold srS at hr ⊢
        refine fn_in ?_; refine acl_in Tryz.func58 rfl isfn_58 (Nat.le_of_ble_eq_true rfl) (fun R hR => ?_); rw [Tryz.results58] at hR; refine wg_run ?_; (simp only [Tryz.f58, go_sem])
        repeat' (first | (first | (simp only [go_sem, int_bne]) | (((first | apply sp1 | apply sp2 | apply sp3 | apply sp4 | apply sp5 | apply sp6 | apply sp7) <;> intro hb) <;> (simp only [go_sem, hb, int_bne])) | ((first | apply wm_done | apply wt_done | apply wg_run | refine fk ?_ ?_) <;> (simp only [go_sem, int_bne]))) | (first | (refine wl_next (wg_run ?_); (simp only [go_sem])) | refine wd_rounds 6 ?_) | ((first | refine mxq6 [] ?_ | refine mxq5 [] ?_ | refine mxq4 [] ?_ | refine mxq3 [] ?_ | refine mxq2 [] ?_ | refine mxq1 [] ?_ | refine mxq0 [] ?_ | fail); (simp only [go_sem, int_bne])) | (first | refine cdq ?_ (hc := va) | refine cmq ?_ (hc := va) | refine ctq ?_ (hc := va)); (simp only [go_sem]) | (first | refine cdq ?_ (hc := vb) | refine cmq ?_ (hc := vb) | refine ctq ?_ (hc := vb)); (simp only [go_sem]) | (first | refine cdq ?_ (hc := hr) | refine cmq ?_ (hc := hr) | refine ctq ?_ (hc := hr)); (simp only [go_sem]) | fail)
        all_goals (refine hR _ ?_; refine rat [] (hK := ⟨rfl, rfl⟩))
  | pair a b iha ihb =>
    intro hw hn hv hz
    have hr := sReduce (.pair a b) hw hz rfl
    simp only [E.wf, E.noA, Bool.and_eq_true] at hw hn
    simp only [E.tm, nd, Tm.size, Tm.sizes] at hz
    have va := sIsVal a hw.1
    have vb := sIsVal b hw.2
    rw [E.val_tm] at va vb
    simp only [E.step]
    cases ea : a.val
    · rw [ea] at va
      have h1 := iha hw.1 hn.1 ea (by omega)
      cases es : a.step
      all_goals
        rw [es] at h1
        simp only [SR.map, srS, SR.tm, SR.code, SR.lab] at h1 ⊢
        simp only [E.tm, nd]
        refine fn_in ?_; refine acl_in Tryz.func58 rfl isfn_58 (Nat.le_of_ble_eq_true rfl) (fun R hR => ?_); rw [Tryz.results58] at hR; refine wg_run ?_; (simp only [Tryz.f58, go_sem])
        repeat' (first | (first | (simp only [go_sem, int_bne]) | (((first | apply sp1 | apply sp2 | apply sp3 | apply sp4 | apply sp5 | apply sp6 | apply sp7) <;> intro hb) <;> (simp only [go_sem, hb, int_bne])) | ((first | apply wm_done | apply wt_done | apply wg_run | refine fk ?_ ?_) <;> (simp only [go_sem, int_bne]))) | (first | (refine wl_next (wg_run ?_); (simp only [go_sem])) | refine wd_rounds 6 ?_) | ((first | refine mxq6 [] ?_ | refine mxq5 [] ?_ | refine mxq4 [] ?_ | refine mxq3 [] ?_ | refine mxq2 [] ?_ | refine mxq1 [] ?_ | refine mxq0 [] ?_ | fail); (simp only [go_sem, int_bne])) | (first | refine cdq ?_ (hc := va) | refine cmq ?_ (hc := va) | refine ctq ?_ (hc := va)); (simp only [go_sem]) | (first | refine cdq ?_ (hc := h1) | refine cmq ?_ (hc := h1) | refine ctq ?_ (hc := h1)); (simp only [go_sem]) | fail)
        all_goals (refine hR _ ?_; refine rat [] (hK := ⟨rfl, rfl⟩))
    · rw [ea] at va
      simp only []
      cases eb : b.val
      · rw [eb] at vb
        have h1 := ihb hw.2 hn.2 eb (by omega)
        cases es : b.step
        all_goals
          rw [es] at h1
          simp only [SR.map, srS, SR.tm, SR.code, SR.lab] at h1 ⊢
          simp only [E.tm, nd]
          refine fn_in ?_; refine acl_in Tryz.func58 rfl isfn_58 (Nat.le_of_ble_eq_true rfl) (fun R hR => ?_); rw [Tryz.results58] at hR; refine wg_run ?_; (simp only [Tryz.f58, go_sem])
          repeat' (first | (first | (simp only [go_sem, int_bne]) | (((first | apply sp1 | apply sp2 | apply sp3 | apply sp4 | apply sp5 | apply sp6 | apply sp7) <;> intro hb) <;> (simp only [go_sem, hb, int_bne])) | ((first | apply wm_done | apply wt_done | apply wg_run | refine fk ?_ ?_) <;> (simp only [go_sem, int_bne]))) | (first | (refine wl_next (wg_run ?_); (simp only [go_sem])) | refine wd_rounds 6 ?_) | ((first | refine mxq6 [] ?_ | refine mxq5 [] ?_ | refine mxq4 [] ?_ | refine mxq3 [] ?_ | refine mxq2 [] ?_ | refine mxq1 [] ?_ | refine mxq0 [] ?_ | fail); (simp only [go_sem, int_bne])) | (first | refine cdq ?_ (hc := va) | refine cmq ?_ (hc := va) | refine ctq ?_ (hc := va)); (simp only [go_sem]) | (first | refine cdq ?_ (hc := vb) | refine cmq ?_ (hc := vb) | refine ctq ?_ (hc := vb)); (simp only [go_sem]) | (first | refine cdq ?_ (hc := h1) | refine cmq ?_ (hc := h1) | refine ctq ?_ (hc := h1)); (simp only [go_sem]) | fail)
          all_goals (refine hR _ ?_; refine rat [] (hK := ⟨rfl, rfl⟩))
      · simp [E.val, ea, eb] at hv
  | fst a ih =>
    intro hw hn hv hz
    have hr := sReduce (.fst a) hw hz rfl
    simp only [E.wf, E.noA, Bool.and_eq_true] at hw hn
    simp only [E.tm, nd, Tm.size, Tm.sizes] at hz
    have va := sIsVal a hw
    rw [E.val_tm] at va
    simp only [E.step]
    cases ea : a.val
    · rw [ea] at va
      have h1 := ih hw hn ea (by omega)
      cases es : a.step
      all_goals
        rw [es] at h1
        simp only [SR.map, srS, SR.tm, SR.code, SR.lab] at h1 ⊢
        simp only [E.tm, nd]
        refine fn_in ?_; refine acl_in Tryz.func58 rfl isfn_58 (Nat.le_of_ble_eq_true rfl) (fun R hR => ?_); rw [Tryz.results58] at hR; refine wg_run ?_; (simp only [Tryz.f58, go_sem])
        repeat' (first | (first | (simp only [go_sem, int_bne]) | (((first | apply sp1 | apply sp2 | apply sp3 | apply sp4 | apply sp5 | apply sp6 | apply sp7) <;> intro hb) <;> (simp only [go_sem, hb, int_bne])) | ((first | apply wm_done | apply wt_done | apply wg_run | refine fk ?_ ?_) <;> (simp only [go_sem, int_bne]))) | (first | (refine wl_next (wg_run ?_); (simp only [go_sem])) | refine wd_rounds 6 ?_) | ((first | refine mxq6 [] ?_ | refine mxq5 [] ?_ | refine mxq4 [] ?_ | refine mxq3 [] ?_ | refine mxq2 [] ?_ | refine mxq1 [] ?_ | refine mxq0 [] ?_ | fail); (simp only [go_sem, int_bne])) | (first | refine cdq ?_ (hc := va) | refine cmq ?_ (hc := va) | refine ctq ?_ (hc := va)); (simp only [go_sem]) | (first | refine cdq ?_ (hc := h1) | refine cmq ?_ (hc := h1) | refine ctq ?_ (hc := h1)); (simp only [go_sem]) | fail)
        all_goals (refine hR _ ?_; refine rat [] (hK := ⟨rfl, rfl⟩))
    · rw [ea] at va
      rw [red_fst] at hr
      simp only []
      simp only [E.tm, nd] at hr ⊢
      unfold srS at hr ⊢
      refine fn_in ?_; refine acl_in Tryz.func58 rfl isfn_58 (Nat.le_of_ble_eq_true rfl) (fun R hR => ?_); rw [Tryz.results58] at hR; refine wg_run ?_; (simp only [Tryz.f58, go_sem])
      repeat' (first | (first | (simp only [go_sem, int_bne]) | (((first | apply sp1 | apply sp2 | apply sp3 | apply sp4 | apply sp5 | apply sp6 | apply sp7) <;> intro hb) <;> (simp only [go_sem, hb, int_bne])) | ((first | apply wm_done | apply wt_done | apply wg_run | refine fk ?_ ?_) <;> (simp only [go_sem, int_bne]))) | (first | (refine wl_next (wg_run ?_); (simp only [go_sem])) | refine wd_rounds 6 ?_) | ((first | refine mxq6 [] ?_ | refine mxq5 [] ?_ | refine mxq4 [] ?_ | refine mxq3 [] ?_ | refine mxq2 [] ?_ | refine mxq1 [] ?_ | refine mxq0 [] ?_ | fail); (simp only [go_sem, int_bne])) | (first | refine cdq ?_ (hc := va) | refine cmq ?_ (hc := va) | refine ctq ?_ (hc := va)); (simp only [go_sem]) | (first | refine cdq ?_ (hc := hr) | refine cmq ?_ (hc := hr) | refine ctq ?_ (hc := hr)); (simp only [go_sem]) | fail)
      all_goals (refine hR _ ?_; refine rat [] (hK := ⟨rfl, rfl⟩))
  | snd a ih =>
    intro hw hn hv hz
    have hr := sReduce (.snd a) hw hz rfl
    simp only [E.wf, E.noA, Bool.and_eq_true] at hw hn
    simp only [E.tm, nd, Tm.size, Tm.sizes] at hz
    have va := sIsVal a hw
    rw [E.val_tm] at va
    simp only [E.step]
    cases ea : a.val
    · rw [ea] at va
      have h1 := ih hw hn ea (by omega)
      cases es : a.step
      all_goals
        rw [es] at h1
        simp only [SR.map, srS, SR.tm, SR.code, SR.lab] at h1 ⊢
        simp only [E.tm, nd]
        refine fn_in ?_; refine acl_in Tryz.func58 rfl isfn_58 (Nat.le_of_ble_eq_true rfl) (fun R hR => ?_); rw [Tryz.results58] at hR; refine wg_run ?_; (simp only [Tryz.f58, go_sem])
        repeat' (first | (first | (simp only [go_sem, int_bne]) | (((first | apply sp1 | apply sp2 | apply sp3 | apply sp4 | apply sp5 | apply sp6 | apply sp7) <;> intro hb) <;> (simp only [go_sem, hb, int_bne])) | ((first | apply wm_done | apply wt_done | apply wg_run | refine fk ?_ ?_) <;> (simp only [go_sem, int_bne]))) | (first | (refine wl_next (wg_run ?_); (simp only [go_sem])) | refine wd_rounds 6 ?_) | ((first | refine mxq6 [] ?_ | refine mxq5 [] ?_ | refine mxq4 [] ?_ | refine mxq3 [] ?_ | refine mxq2 [] ?_ | refine mxq1 [] ?_ | refine mxq0 [] ?_ | fail); (simp only [go_sem, int_bne])) | (first | refine cdq ?_ (hc := va) | refine cmq ?_ (hc := va) | refine ctq ?_ (hc := va)); (simp only [go_sem]) | (first | refine cdq ?_ (hc := h1) | refine cmq ?_ (hc := h1) | refine ctq ?_ (hc := h1)); (simp only [go_sem]) | fail)
        all_goals (refine hR _ ?_; refine rat [] (hK := ⟨rfl, rfl⟩))
    · rw [ea] at va
      rw [red_snd] at hr
      simp only []
      simp only [E.tm, nd] at hr ⊢
      unfold srS at hr ⊢
      refine fn_in ?_; refine acl_in Tryz.func58 rfl isfn_58 (Nat.le_of_ble_eq_true rfl) (fun R hR => ?_); rw [Tryz.results58] at hR; refine wg_run ?_; (simp only [Tryz.f58, go_sem])
      repeat' (first | (first | (simp only [go_sem, int_bne]) | (((first | apply sp1 | apply sp2 | apply sp3 | apply sp4 | apply sp5 | apply sp6 | apply sp7) <;> intro hb) <;> (simp only [go_sem, hb, int_bne])) | ((first | apply wm_done | apply wt_done | apply wg_run | refine fk ?_ ?_) <;> (simp only [go_sem, int_bne]))) | (first | (refine wl_next (wg_run ?_); (simp only [go_sem])) | refine wd_rounds 6 ?_) | ((first | refine mxq6 [] ?_ | refine mxq5 [] ?_ | refine mxq4 [] ?_ | refine mxq3 [] ?_ | refine mxq2 [] ?_ | refine mxq1 [] ?_ | refine mxq0 [] ?_ | fail); (simp only [go_sem, int_bne])) | (first | refine cdq ?_ (hc := va) | refine cmq ?_ (hc := va) | refine ctq ?_ (hc := va)); (simp only [go_sem]) | (first | refine cdq ?_ (hc := hr) | refine cmq ?_ (hc := hr) | refine ctq ?_ (hc := hr)); (simp only [go_sem]) | fail)
      all_goals (refine hR _ ?_; refine rat [] (hK := ⟨rfl, rfl⟩))
  | cast s t l a ih =>
    intro hw hn hv hz
    have hr := sReduce (.cast s t l a) hw hz rfl
    simp only [E.wf, E.noA, Bool.and_eq_true] at hw hn
    simp only [E.tm, nd, Tm.size, Tm.sizes] at hz
    have va := sIsVal a hw.2.2.2
    rw [E.val_tm] at va
    simp only [E.step]
    cases ea : a.val
    · rw [ea] at va
      have h1 := ih hw.2.2.2 hn ea (by omega)
      cases es : a.step
      all_goals
        rw [es] at h1
        simp only [SR.map, srS, SR.tm, SR.code, SR.lab] at h1 ⊢
        simp only [E.tm, nd]
        refine fn_in ?_; refine acl_in Tryz.func58 rfl isfn_58 (Nat.le_of_ble_eq_true rfl) (fun R hR => ?_); rw [Tryz.results58] at hR; refine wg_run ?_; (simp only [Tryz.f58, go_sem])
        repeat' (first | (first | (simp only [go_sem, int_bne]) | (((first | apply sp1 | apply sp2 | apply sp3 | apply sp4 | apply sp5 | apply sp6 | apply sp7) <;> intro hb) <;> (simp only [go_sem, hb, int_bne])) | ((first | apply wm_done | apply wt_done | apply wg_run | refine fk ?_ ?_) <;> (simp only [go_sem, int_bne]))) | (first | (refine wl_next (wg_run ?_); (simp only [go_sem])) | refine wd_rounds 6 ?_) | ((first | refine mxq6 [] ?_ | refine mxq5 [] ?_ | refine mxq4 [] ?_ | refine mxq3 [] ?_ | refine mxq2 [] ?_ | refine mxq1 [] ?_ | refine mxq0 [] ?_ | fail); (simp only [go_sem, int_bne])) | (first | refine cdq ?_ (hc := va) | refine cmq ?_ (hc := va) | refine ctq ?_ (hc := va)); (simp only [go_sem]) | (first | refine cdq ?_ (hc := h1) | refine cmq ?_ (hc := h1) | refine ctq ?_ (hc := h1)); (simp only [go_sem]) | fail)
        all_goals (refine hR _ ?_; refine rat [] (hK := ⟨rfl, rfl⟩))
    · rw [ea] at va
      rw [red_cast] at hr
      simp only []
      simp only [E.tm, nd] at hr ⊢
      unfold srS at hr ⊢
      refine fn_in ?_; refine acl_in Tryz.func58 rfl isfn_58 (Nat.le_of_ble_eq_true rfl) (fun R hR => ?_); rw [Tryz.results58] at hR; refine wg_run ?_; (simp only [Tryz.f58, go_sem])
      repeat' (first | (first | (simp only [go_sem, int_bne]) | (((first | apply sp1 | apply sp2 | apply sp3 | apply sp4 | apply sp5 | apply sp6 | apply sp7) <;> intro hb) <;> (simp only [go_sem, hb, int_bne])) | ((first | apply wm_done | apply wt_done | apply wg_run | refine fk ?_ ?_) <;> (simp only [go_sem, int_bne]))) | (first | (refine wl_next (wg_run ?_); (simp only [go_sem])) | refine wd_rounds 6 ?_) | ((first | refine mxq6 [] ?_ | refine mxq5 [] ?_ | refine mxq4 [] ?_ | refine mxq3 [] ?_ | refine mxq2 [] ?_ | refine mxq1 [] ?_ | refine mxq0 [] ?_ | fail); (simp only [go_sem, int_bne])) | (first | refine cdq ?_ (hc := va) | refine cmq ?_ (hc := va) | refine ctq ?_ (hc := va)); (simp only [go_sem]) | (first | refine cdq ?_ (hc := hr) | refine cmq ?_ (hc := hr) | refine ctq ?_ (hc := hr)); (simp only [go_sem]) | fail)
      all_goals (refine hR _ ?_; refine rat [] (hK := ⟨rfl, rfl⟩))
  | ite a b c iha ihb ihc =>
    intro hw hn hv hz
    simp only [E.wf, E.noA, Bool.and_eq_true] at hw hn
    simp only [E.tm, nd, Tm.size, Tm.sizes] at hz
    have va := sIsVal a hw.1
    rw [E.val_tm] at va
    simp only [E.step]
    cases ea : a.val
    · rw [ea] at va
      have h1 := iha hw.1 hn.1 ea (by omega)
      cases es : a.step
      all_goals
        rw [es] at h1
        simp only [SR.map, srS, SR.tm, SR.code, SR.lab] at h1 ⊢
        simp only [E.tm, nd]
        refine fn_in ?_; refine acl_in Tryz.func58 rfl isfn_58 (Nat.le_of_ble_eq_true rfl) (fun R hR => ?_); rw [Tryz.results58] at hR; refine wg_run ?_; (simp only [Tryz.f58, go_sem])
        repeat' (first | (first | (simp only [go_sem, int_bne]) | (((first | apply sp1 | apply sp2 | apply sp3 | apply sp4 | apply sp5 | apply sp6 | apply sp7) <;> intro hb) <;> (simp only [go_sem, hb, int_bne])) | ((first | apply wm_done | apply wt_done | apply wg_run | refine fk ?_ ?_) <;> (simp only [go_sem, int_bne]))) | (first | (refine wl_next (wg_run ?_); (simp only [go_sem])) | refine wd_rounds 6 ?_) | ((first | refine mxq6 [] ?_ | refine mxq5 [] ?_ | refine mxq4 [] ?_ | refine mxq3 [] ?_ | refine mxq2 [] ?_ | refine mxq1 [] ?_ | refine mxq0 [] ?_ | fail); (simp only [go_sem, int_bne])) | (first | refine cdq ?_ (hc := va) | refine cmq ?_ (hc := va) | refine ctq ?_ (hc := va)); (simp only [go_sem]) | (first | refine cdq ?_ (hc := h1) | refine cmq ?_ (hc := h1) | refine ctq ?_ (hc := h1)); (simp only [go_sem]) | fail)
        all_goals (refine hR _ ?_; refine rat [] (hK := ⟨rfl, rfl⟩))
    · rw [ea] at va
      cases a <;> simp only [E.val, Bool.false_eq_true] at ea
      all_goals
        simp only [ruleIte, srS, SR.tm, SR.code, SR.lab]
        simp only [E.tm, nd] at va ⊢
        refine fn_in ?_; refine acl_in Tryz.func58 rfl isfn_58 (Nat.le_of_ble_eq_true rfl) (fun R hR => ?_); rw [Tryz.results58] at hR; refine wg_run ?_; (simp only [Tryz.f58, go_sem])
        repeat' (first | (first | (simp only [go_sem, int_bne]) | (((first | apply sp1 | apply sp2 | apply sp3 | apply sp4 | apply sp5 | apply sp6 | apply sp7) <;> intro hb) <;> (simp only [go_sem, hb, int_bne])) | ((first | apply wm_done | apply wt_done | apply wg_run | refine fk ?_ ?_) <;> (simp only [go_sem, int_bne]))) | (first | (refine wl_next (wg_run ?_); (simp only [go_sem])) | refine wd_rounds 6 ?_) | ((first | refine mxq6 [] ?_ | refine mxq5 [] ?_ | refine mxq4 [] ?_ | refine mxq3 [] ?_ | refine mxq2 [] ?_ | refine mxq1 [] ?_ | refine mxq0 [] ?_ | fail); (simp only [go_sem, int_bne])) | (first | refine cdq ?_ (hc := va) | refine cmq ?_ (hc := va) | refine ctq ?_ (hc := va)); (simp only [go_sem]) | fail)
        all_goals (refine hR _ ?_; refine rat [] (hK := ⟨rfl, rfl⟩))
  | var x =>
    intro hw hn hv hz
    have hr := sReduce (.var x) hw hz rfl
    simp only [E.step]
    simp only [E.red, E.ruleI, E.castR] at hr
    simp only [E.tm, nd] at hr ⊢
    unfold srS at hr ⊢
    refine fn_in ?_; refine acl_in Tryz.func58 rfl isfn_58 (Nat.le_of_ble_eq_true rfl) (fun R hR => ?_); rw [Tryz.results58] at hR; refine wg_run ?_; (simp only [Tryz.f58, go_sem])
    repeat' (first | (first | (simp only [go_sem, int_bne]) | (((first | apply sp1 | apply sp2 | apply sp3 | apply sp4 | apply sp5 | apply sp6 | apply sp7) <;> intro hb) <;> (simp only [go_sem, hb, int_bne])) | ((first | apply wm_done | apply wt_done | apply wg_run | refine fk ?_ ?_) <;> (simp only [go_sem, int_bne]))) | (first | (refine wl_next (wg_run ?_); (simp only [go_sem])) | refine wd_rounds 6 ?_) | ((first | refine mxq6 [] ?_ | refine mxq5 [] ?_ | refine mxq4 [] ?_ | refine mxq3 [] ?_ | refine mxq2 [] ?_ | refine mxq1 [] ?_ | refine mxq0 [] ?_ | fail); (simp only [go_sem, int_bne])) | (first | refine cdq ?_ (hc := hr) | refine cmq ?_ (hc := hr) | refine ctq ?_ (hc := hr)); (simp only [go_sem]) | fail)
    all_goals (refine hR _ ?_; refine rat [] (hK := ⟨rfl, rfl⟩))
  | num _ | tru | fls => intro _ _ hv; simp [E.val] at hv
  | lam _ _ a ih => intro _ _ hv; simp [E.val] at hv
  | _ => intro _ hn; simp [E.noA] at hn
end Go.Proofs.YtjmicohbnpbemaaGreat
/- Evaluation of terms with casts, in the program and in the reference. On shadows. -/
namespace Go.Proofs.YtjmicohbnpbemaaGreat
open Go.RowKit Go.Proofs.Sh Go.Proofs.Grad
set_option maxRecDepth 100000
set_option maxHeartbeats 8000000
theorem tm_nodes40 (e : E) : e.wf = true → e.tm.size ≤ 40 * e.nodes := by
  have hno : noTy.size = 1 := rfl
  induction e with
  | var _ | num _ | tru | fls => intro _; simp only [E.tm, nd, Tm.size, Tm.sizes, hno, E.nodes]; omega
  | lam x t a ih => intro hw; simp only [E.wf, Bool.and_eq_true, decide_eq_true_eq] at hw; have := ih hw.2.2; have := (Ty.valid_16 (t := t.ty) (by rw [T.valid_ty]; simpa using hw.2.1)); simp only [E.tm, nd, Tm.size, Tm.sizes, hno, E.nodes]; omega
  | app a b iha ihb | add a b iha ihb | less a b iha ihb | pair a b iha ihb => intro hw; simp only [E.wf, Bool.and_eq_true] at hw; have := iha hw.1; have := ihb hw.2; simp only [E.tm, nd, Tm.size, Tm.sizes, hno, E.nodes]; omega
  | ite a b c iha ihb ihc => intro hw; simp only [E.wf, Bool.and_eq_true] at hw; have := iha hw.1; have := ihb hw.2.1; have := ihc hw.2.2; simp only [E.tm, nd, Tm.size, Tm.sizes, hno, E.nodes]; omega
  | fst a ih | snd a ih => intro hw; have := ih hw; simp only [E.tm, nd, Tm.size, Tm.sizes, hno, E.nodes]; omega
  | asc t a ih => intro hw; simp only [E.wf, Bool.and_eq_true, decide_eq_true_eq] at hw; have := ih hw.2; have := (Ty.valid_16 (t := t.ty) (by rw [T.valid_ty]; simpa using hw.1)); simp only [E.tm, nd, Tm.size, Tm.sizes, hno, E.nodes]; omega
  | cast s t l a ih => intro hw; simp only [E.wf, Bool.and_eq_true, decide_eq_true_eq] at hw; have := ih hw.2.2.2; have := (Ty.valid_16 (t := t.ty) (by rw [T.valid_ty]; simpa using hw.1.2)); have := (Ty.valid_16 (t := s.ty) (by rw [T.valid_ty]; simpa using hw.1.1)); simp only [E.tm, nd, Tm.size, Tm.sizes, hno, E.nodes]; omega
theorem okC_small {e : E} (h : e.okC = true) : e.tm.size < 100000000 := by
  simp only [E.okC, Bool.and_eq_true, decide_eq_true_eq] at h
  have := tm_nodes40 e h.1
  omega
def scT (r : SC) : AV := .tup [.agg (teC r.tm), .one (.sc (.int .i64 r.code)), .one (.sc (.int .i64 r.lab))]
def badT : AV := .tup [.agg (teC tm0), .one (.sc (.int .i64 3)), .one (.sc (.int .i64 0))]
theorem iStepBad (t : Tm) (h : t.castV = false) : AFn Tryz.prog 21 [.agg (teC t)] badT := by
  have hv := iCastV t
  rw [h] at hv
  unfold badT
  simp only [tm0, noTy]
  refine fn_in ?_; refine acl_in Tryz.func21 rfl isfn_21 (Nat.le_of_ble_eq_true rfl) (fun R hR => ?_); rw [Tryz.results21] at hR; refine wg_run ?_; (simp only [Tryz.f21, go_sem])
  repeat' (first | (first | (simp only [go_sem, int_bne]) | (((first | apply sp1 | apply sp2 | apply sp3 | apply sp4 | apply sp5 | apply sp6 | apply sp7) <;> intro hb) <;> (simp only [go_sem, hb, int_bne])) | ((first | apply wm_done | apply wt_done | apply wg_run | refine fk ?_ ?_) <;> (simp only [go_sem, int_bne]))) | (first | refine cdq ?_ (hc := hv) | refine cmq ?_ (hc := hv) | refine ctq ?_ (hc := hv)); (simp only [go_sem]) | fail)
  all_goals (refine hR _ ?_; refine rat [] (hK := ⟨rfl, rfl⟩))
theorem iStepCast (e : E) (h : e.okC = true) : AFn Tryz.prog 21 [.agg (teC e.tm)] (scT e.sc) := by
  have hz := okC_small h
  have hv := iCastV e.tm
  rw [E.castV_tm, h] at hv
  have hval := iIsVal 100000000 (by omega) e.tm hz
  rw [E.val_tm] at hval
  simp only [E.okC, Bool.and_eq_true] at h
  have ho := iOwn e h.1
  unfold E.sc
  cases ev : e.val
  · rw [ev] at hval
    have hs := iStep e h.1 h.2.1 ev hz
    simp only [stT] at hs
    simp only []
    cases es : e.step with
    | took x =>
      rw [E.so_took e x ev es, es] at hs
      obtain ⟨xw, xn⟩ := E.step_wf h.1 h.2.1 es
      have hv2 := iCastV x.tm
      rw [E.castV_tm] at hv2
      have ho2 := iOwn x xw
      simp only [SR.code, SR.lab] at hs
      simp only []
      cases eo : x.okC
      all_goals
        rw [eo] at hv2
        simp only [scT, SC.tm, SC.code, SC.lab]
        (try simp only [tm0, noTy])
        refine fn_in ?_; refine acl_in Tryz.func21 rfl isfn_21 (Nat.le_of_ble_eq_true rfl) (fun R hR => ?_); rw [Tryz.results21] at hR; refine wg_run ?_; (simp only [Tryz.f21, go_sem])
        repeat' (first | (first | (simp only [go_sem, int_bne]) | (((first | apply sp1 | apply sp2 | apply sp3 | apply sp4 | apply sp5 | apply sp6 | apply sp7) <;> intro hb) <;> (simp only [go_sem, hb, int_bne])) | ((first | apply wm_done | apply wt_done | apply wg_run | refine fk ?_ ?_) <;> (simp only [go_sem, int_bne]))) | (first | refine cdq ?_ (hc := hv) | refine cmq ?_ (hc := hv) | refine ctq ?_ (hc := hv)); (simp only [go_sem]) | (first | refine cdq ?_ (hc := hval) | refine cmq ?_ (hc := hval) | refine ctq ?_ (hc := hval)); (simp only [go_sem]) | (first | refine cdq ?_ (hc := hs) | refine cmq ?_ (hc := hs) | refine ctq ?_ (hc := hs)); (simp only [go_sem]) | (first | refine cdq ?_ (hc := hv2) | refine cmq ?_ (hc := hv2) | refine ctq ?_ (hc := hv2)); (simp only [go_sem]) | (first | refine cdq ?_ (hc := ho2) | refine cmq ?_ (hc := ho2) | refine ctq ?_ (hc := ho2)); (simp only [go_sem]) | fail)
        all_goals (refine hR _ ?_; refine rat [] (hK := ⟨rfl, rfl⟩))
    | blame l =>
      rw [es] at hs
      simp only [SR.code, SR.lab] at hs
      simp only [scT, SC.tm, SC.code, SC.lab]
      simp only [tm0, noTy]
      refine fn_in ?_; refine acl_in Tryz.func21 rfl isfn_21 (Nat.le_of_ble_eq_true rfl) (fun R hR => ?_); rw [Tryz.results21] at hR; refine wg_run ?_; (simp only [Tryz.f21, go_sem])
      repeat' (first | (first | (simp only [go_sem, int_bne]) | (((first | apply sp1 | apply sp2 | apply sp3 | apply sp4 | apply sp5 | apply sp6 | apply sp7) <;> intro hb) <;> (simp only [go_sem, hb, int_bne])) | ((first | apply wm_done | apply wt_done | apply wg_run | refine fk ?_ ?_) <;> (simp only [go_sem, int_bne]))) | (first | refine cdq ?_ (hc := hv) | refine cmq ?_ (hc := hv) | refine ctq ?_ (hc := hv)); (simp only [go_sem]) | (first | refine cdq ?_ (hc := hval) | refine cmq ?_ (hc := hval) | refine ctq ?_ (hc := hval)); (simp only [go_sem]) | (first | refine cdq ?_ (hc := hs) | refine cmq ?_ (hc := hs) | refine ctq ?_ (hc := hs)); (simp only [go_sem]) | fail)
      all_goals (refine hR _ ?_; refine rat [] (hK := ⟨rfl, rfl⟩))
    | stuck =>
      rw [es] at hs
      simp only [SR.code, SR.lab] at hs
      simp only [scT, SC.tm, SC.code, SC.lab]
      simp only [tm0, noTy]
      refine fn_in ?_; refine acl_in Tryz.func21 rfl isfn_21 (Nat.le_of_ble_eq_true rfl) (fun R hR => ?_); rw [Tryz.results21] at hR; refine wg_run ?_; (simp only [Tryz.f21, go_sem])
      repeat' (first | (first | (simp only [go_sem, int_bne]) | (((first | apply sp1 | apply sp2 | apply sp3 | apply sp4 | apply sp5 | apply sp6 | apply sp7) <;> intro hb) <;> (simp only [go_sem, hb, int_bne])) | ((first | apply wm_done | apply wt_done | apply wg_run | refine fk ?_ ?_) <;> (simp only [go_sem, int_bne]))) | (first | refine cdq ?_ (hc := hv) | refine cmq ?_ (hc := hv) | refine ctq ?_ (hc := hv)); (simp only [go_sem]) | (first | refine cdq ?_ (hc := hval) | refine cmq ?_ (hc := hval) | refine ctq ?_ (hc := hval)); (simp only [go_sem]) | (first | refine cdq ?_ (hc := hs) | refine cmq ?_ (hc := hs) | refine ctq ?_ (hc := hs)); (simp only [go_sem]) | fail)
      all_goals (refine hR _ ?_; refine rat [] (hK := ⟨rfl, rfl⟩))
  · rw [ev] at hval
    simp only [scT, SC.tm, SC.code, SC.lab]
    refine fn_in ?_; refine acl_in Tryz.func21 rfl isfn_21 (Nat.le_of_ble_eq_true rfl) (fun R hR => ?_); rw [Tryz.results21] at hR; refine wg_run ?_; (simp only [Tryz.f21, go_sem])
    repeat' (first | (first | (simp only [go_sem, int_bne]) | (((first | apply sp1 | apply sp2 | apply sp3 | apply sp4 | apply sp5 | apply sp6 | apply sp7) <;> intro hb) <;> (simp only [go_sem, hb, int_bne])) | ((first | apply wm_done | apply wt_done | apply wg_run | refine fk ?_ ?_) <;> (simp only [go_sem, int_bne]))) | (first | refine cdq ?_ (hc := hv) | refine cmq ?_ (hc := hv) | refine ctq ?_ (hc := hv)); (simp only [go_sem]) | (first | refine cdq ?_ (hc := hval) | refine cmq ?_ (hc := hval) | refine ctq ?_ (hc := hval)); (simp only [go_sem]) | (first | refine cdq ?_ (hc := ho) | refine cmq ?_ (hc := ho) | refine ctq ?_ (hc := ho)); (simp only [go_sem]) | fail)
    all_goals (refine hR _ ?_; refine rat [] (hK := ⟨rfl, rfl⟩))
theorem sStepBad (t : Tm) (h : t.castV = false) (hz : t.size < 4611686018427387904) : AFn Tryz.prog 22 [.agg (teC t)] badT := by
  have hv := sCastV t hz
  rw [h] at hv
  unfold badT
  simp only [tm0, noTy]
  refine fn_in ?_; refine acl_in Tryz.func22 rfl isfn_22 (Nat.le_of_ble_eq_true rfl) (fun R hR => ?_); rw [Tryz.results22] at hR; refine wg_run ?_; (simp only [Tryz.f22, go_sem])
  repeat' (first | (first | (simp only [go_sem, int_bne]) | (((first | apply sp1 | apply sp2 | apply sp3 | apply sp4 | apply sp5 | apply sp6 | apply sp7) <;> intro hb) <;> (simp only [go_sem, hb, int_bne])) | ((first | apply wm_done | apply wt_done | apply wg_run | refine fk ?_ ?_) <;> (simp only [go_sem, int_bne]))) | (first | refine cdq ?_ (hc := hv) | refine cmq ?_ (hc := hv) | refine ctq ?_ (hc := hv)); (simp only [go_sem]) | fail)
  all_goals (refine hR _ ?_; refine rat [] (hK := ⟨rfl, rfl⟩))
theorem sStepCast (e : E) (h : e.okC = true) : AFn Tryz.prog 22 [.agg (teC e.tm)] (scT e.sc) := by
  have hz := okC_small h
  have hv := sCastV e.tm (by omega)
  rw [E.castV_tm, h] at hv
  simp only [E.okC, Bool.and_eq_true] at h
  have hval := sIsVal e h.1
  rw [E.val_tm] at hval
  have ho := l2Copy 274877906944 (by omega) e.tm (by omega)
  unfold E.sc
  cases ev : e.val
  · rw [ev] at hval
    have hs := sStep e h.1 h.2.1 ev hz
    simp only [srS] at hs
    simp only []
    cases es : e.step with
    | took x =>
      rw [es] at hs
      obtain ⟨xw, xn⟩ := E.step_wf h.1 h.2.1 es
      have hxz : x.tm.size < 1000000000 := by have h4 := E.step_nodes es (of_decide_eq_true h.2.2.2); have := tm_nodes40 x xw; omega
      have hv2 := sCastV x.tm (by omega)
      rw [E.castV_tm] at hv2
      have ho2 := l2Copy 274877906944 (by omega) x.tm (by omega)
      simp only [SR.code, SR.lab, SR.tm] at hs
      simp only []
      cases eo : x.okC
      all_goals
        rw [eo] at hv2
        simp only [scT, SC.tm, SC.code, SC.lab]
        (try simp only [tm0, noTy])
        refine fn_in ?_; refine acl_in Tryz.func22 rfl isfn_22 (Nat.le_of_ble_eq_true rfl) (fun R hR => ?_); rw [Tryz.results22] at hR; refine wg_run ?_; (simp only [Tryz.f22, go_sem])
        repeat' (first | (first | (simp only [go_sem, int_bne]) | (((first | apply sp1 | apply sp2 | apply sp3 | apply sp4 | apply sp5 | apply sp6 | apply sp7) <;> intro hb) <;> (simp only [go_sem, hb, int_bne])) | ((first | apply wm_done | apply wt_done | apply wg_run | refine fk ?_ ?_) <;> (simp only [go_sem, int_bne]))) | (first | refine cdq ?_ (hc := hv) | refine cmq ?_ (hc := hv) | refine ctq ?_ (hc := hv)); (simp only [go_sem]) | (first | refine cdq ?_ (hc := hval) | refine cmq ?_ (hc := hval) | refine ctq ?_ (hc := hval)); (simp only [go_sem]) | (first | refine cdq ?_ (hc := hs) | refine cmq ?_ (hc := hs) | refine ctq ?_ (hc := hs)); (simp only [go_sem]) | (first | refine cdq ?_ (hc := hv2) | refine cmq ?_ (hc := hv2) | refine ctq ?_ (hc := hv2)); (simp only [go_sem]) | (first | refine cdq ?_ (hc := ho2) | refine cmq ?_ (hc := ho2) | refine ctq ?_ (hc := ho2)); (simp only [go_sem]) | fail)
        all_goals (refine hR _ ?_; refine rat [] (hK := ⟨rfl, rfl⟩))
    | blame l =>
      rw [es] at hs
      simp only [SR.code, SR.lab, SR.tm] at hs
      simp only [scT, SC.tm, SC.code, SC.lab]
      simp only [tm0, noTy] at hs ⊢
      refine fn_in ?_; refine acl_in Tryz.func22 rfl isfn_22 (Nat.le_of_ble_eq_true rfl) (fun R hR => ?_); rw [Tryz.results22] at hR; refine wg_run ?_; (simp only [Tryz.f22, go_sem])
      repeat' (first | (first | (simp only [go_sem, int_bne]) | (((first | apply sp1 | apply sp2 | apply sp3 | apply sp4 | apply sp5 | apply sp6 | apply sp7) <;> intro hb) <;> (simp only [go_sem, hb, int_bne])) | ((first | apply wm_done | apply wt_done | apply wg_run | refine fk ?_ ?_) <;> (simp only [go_sem, int_bne]))) | (first | refine cdq ?_ (hc := hv) | refine cmq ?_ (hc := hv) | refine ctq ?_ (hc := hv)); (simp only [go_sem]) | (first | refine cdq ?_ (hc := hval) | refine cmq ?_ (hc := hval) | refine ctq ?_ (hc := hval)); (simp only [go_sem]) | (first | refine cdq ?_ (hc := hs) | refine cmq ?_ (hc := hs) | refine ctq ?_ (hc := hs)); (simp only [go_sem]) | fail)
      all_goals (refine hR _ ?_; refine rat [] (hK := ⟨rfl, rfl⟩))
    | stuck =>
      rw [es] at hs
      simp only [SR.code, SR.lab, SR.tm] at hs
      simp only [scT, SC.tm, SC.code, SC.lab]
      simp only [tm0, noTy] at hs ⊢
      refine fn_in ?_; refine acl_in Tryz.func22 rfl isfn_22 (Nat.le_of_ble_eq_true rfl) (fun R hR => ?_); rw [Tryz.results22] at hR; refine wg_run ?_; (simp only [Tryz.f22, go_sem])
      repeat' (first | (first | (simp only [go_sem, int_bne]) | (((first | apply sp1 | apply sp2 | apply sp3 | apply sp4 | apply sp5 | apply sp6 | apply sp7) <;> intro hb) <;> (simp only [go_sem, hb, int_bne])) | ((first | apply wm_done | apply wt_done | apply wg_run | refine fk ?_ ?_) <;> (simp only [go_sem, int_bne]))) | (first | refine cdq ?_ (hc := hv) | refine cmq ?_ (hc := hv) | refine ctq ?_ (hc := hv)); (simp only [go_sem]) | (first | refine cdq ?_ (hc := hval) | refine cmq ?_ (hc := hval) | refine ctq ?_ (hc := hval)); (simp only [go_sem]) | (first | refine cdq ?_ (hc := hs) | refine cmq ?_ (hc := hs) | refine ctq ?_ (hc := hs)); (simp only [go_sem]) | fail)
      all_goals (refine hR _ ?_; refine rat [] (hK := ⟨rfl, rfl⟩))
  · rw [ev] at hval
    simp only [scT, SC.tm, SC.code, SC.lab]
    refine fn_in ?_; refine acl_in Tryz.func22 rfl isfn_22 (Nat.le_of_ble_eq_true rfl) (fun R hR => ?_); rw [Tryz.results22] at hR; refine wg_run ?_; (simp only [Tryz.f22, go_sem])
    repeat' (first | (first | (simp only [go_sem, int_bne]) | (((first | apply sp1 | apply sp2 | apply sp3 | apply sp4 | apply sp5 | apply sp6 | apply sp7) <;> intro hb) <;> (simp only [go_sem, hb, int_bne])) | ((first | apply wm_done | apply wt_done | apply wg_run | refine fk ?_ ?_) <;> (simp only [go_sem, int_bne]))) | (first | refine cdq ?_ (hc := hv) | refine cmq ?_ (hc := hv) | refine ctq ?_ (hc := hv)); (simp only [go_sem]) | (first | refine cdq ?_ (hc := hval) | refine cmq ?_ (hc := hval) | refine ctq ?_ (hc := hval)); (simp only [go_sem]) | (first | refine cdq ?_ (hc := ho) | refine cmq ?_ (hc := ho) | refine ctq ?_ (hc := ho)); (simp only [go_sem]) | fail)
    all_goals (refine hR _ ?_; refine rat [] (hK := ⟨rfl, rfl⟩))
end Go.Proofs.YtjmicohbnpbemaaGreat
/- Casts that are nested directly. No program, no world. -/
namespace Go.Proofs.Grad
end Go.Proofs.Grad
