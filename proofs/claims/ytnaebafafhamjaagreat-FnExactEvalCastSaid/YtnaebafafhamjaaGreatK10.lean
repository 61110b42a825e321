/- Texts of the proof, one behind another. -/
import Derived.Test.YtnaebafafhamjaaGreatK6
import Derived.Test.YtnaebafafhamjaaGreatK9
set_option linter.unusedSimpArgs false
set_option linter.unusedVariables false
/- Steps of terms with casts, in the reference. On shadows. -/
namespace Go.Proofs.YtnaebafafhamjaaGreat
open Go.RowKit Go.Proofs.Sh Go.Proofs.Grad
set_option maxRecDepth 100000
set_option maxHeartbeats 8000000
theorem sStep (e : E) : e.wf = true → e.noA = true → e.val = false → e.tm.size < 100000000 → AFn Tryz.prog 78 [.agg (teC e.tm)] (srS e.step) := by
  induction e with
  | app a b iha ihb =>
    intro hw hn hv hz
    have hr := sReduce (.app a b) hw hz rfl
    simp only [E.wf, E.noA, Bool.and_eq_true] at hw hn
    simp only [E.tm, nd, Tm.size, Tm.sizes] at hz
    have va := sIsVal a hw.1
    have vb := sIsVal b hw.2
    rw [E.val_tm] at va vb
    simp only [E.step]
    cases ea : a.val
    · rw [ea] at va
      have h1 := iha hw.1 hn.1 ea (by omega)
      cases es : a.step
      all_goals
        rw [es] at h1
        simp only [SR.map, srS, SR.tm, SR.code, SR.lab] at h1 ⊢
        simp only [E.tm, nd]
        refine fn_in ?_; refine acl_in Tryz.func78 rfl isfn_78 (Nat.le_of_ble_eq_true rfl) (fun R hR => ?_); rw [Tryz.results78] at hR; refine wg_run ?_; (simp only [Tryz.f78, go_sem])
        repeat' (first | (first | (simp only [go_sem, int_bne]) | (((first | refine sp1 ?_ ?_ | refine sp2 ?_ ?_ | refine sp3 ?_ ?_ | refine sp4 ?_ ?_ | refine sp5 ?_ ?_ | refine sp6 ?_ ?_ | refine sp7 ?_ ?_) <;> intro hb) <;> (simp only [go_sem, hb, int_bne])) | ((first | refine wm_done ?_ | refine wt_done ?_ | refine wg_run ?_ | refine fk ?_ ?_) <;> (simp only [go_sem, int_bne]))) | (first | (refine wl_next (wg_run ?_); (simp only [go_sem])) | refine wd_rounds 6 ?_) | ((first | refine mx 6 [] follows ?_ | refine mx 5 [] follows ?_ | refine mx 4 [] follows ?_ | refine mx 3 [] follows ?_ | refine mx 2 [] follows ?_ | refine mx 1 [] follows ?_ | refine mx 0 [] follows ?_ | fail); (simp only [go_sem, int_bne])) | (first | refine cd (hc := va) (hK := ?_) | refine cm (hc := va) (hK := ?_) | refine ct (hc := va) (hK := ?_)); (simp only [go_sem]) | (first | refine cd (hc := h1) (hK := ?_) | refine cm (hc := h1) (hK := ?_) | refine ct (hc := h1) (hK := ?_)); (simp only [go_sem]) | fail)
        all_goals (refine hR _ ?_; refine rat [] (hK := ⟨rfl, rfl⟩))
    · rw [ea] at va
      simp only []
      cases eb : b.val
      · rw [eb] at vb
        have h1 := ihb hw.2 hn.2 eb (by omega)
        cases es : b.step
        all_goals
          rw [es] at h1
          simp only [SR.map, srS, SR.tm, SR.code, SR.lab] at h1 ⊢
          simp only [E.tm, nd]
          refine fn_in ?_; refine acl_in Tryz.func78 rfl isfn_78 (Nat.le_of_ble_eq_true rfl) (fun R hR => ?_); rw [Tryz.results78] at hR; refine wg_run ?_; (simp only [Tryz.f78, go_sem])
          repeat' (first | (first | (simp only [go_sem, int_bne]) | (((first | refine sp1 ?_ ?_ | refine sp2 ?_ ?_ | refine sp3 ?_ ?_ | refine sp4 ?_ ?_ | refine sp5 ?_ ?_ | refine sp6 ?_ ?_ | refine sp7 ?_ ?_) <;> intro hb) <;> (simp only [go_sem, hb, int_bne])) | ((first | refine wm_done ?_ | refine wt_done ?_ | refine wg_run ?_ | refine fk ?_ ?_) <;> (simp only [go_sem, int_bne]))) | (first | (refine wl_next (wg_run ?_); (simp only [go_sem])) | refine wd_rounds 6 ?_) | ((first | refine mx 6 [] follows ?_ | refine mx 5 [] follows ?_ | refine mx 4 [] follows ?_ | refine mx 3 [] follows ?_ | refine mx 2 [] follows ?_ | refine mx 1 [] follows ?_ | refine mx 0 [] follows ?_ | fail); (simp only [go_sem, int_bne])) | (first | refine cd (hc := va) (hK := ?_) | refine cm (hc := va) (hK := ?_) | refine ct (hc := va) (hK := ?_)); (simp only [go_sem]) | (first | refine cd (hc := vb) (hK := ?_) | refine cm (hc := vb) (hK := ?_) | refine ct (hc := vb) (hK := ?_)); (simp only [go_sem]) | (first | refine cd (hc := h1) (hK := ?_) | refine cm (hc := h1) (hK := ?_) | refine ct (hc := h1) (hK := ?_)); (simp only [go_sem]) | fail)
          all_goals (refine hR _ ?_; refine rat [] (hK := ⟨rfl, rfl⟩))
      · rw [eb] at vb
        rw [red_app] at hr
        simp only []
        simp only [E.tm, nd] at hr ⊢
        unfold srS at hr ⊢
        refine fn_in ?_; refine acl_in Tryz.func78 rfl isfn_78 (Nat.le_of_ble_eq_true rfl) (fun R hR => ?_); rw [Tryz.results78] at hR; refine wg_run ?_; (simp only [Tryz.f78, go_sem])
        repeat' (first | (first | (simp only [go_sem, int_bne]) | (((first | refine sp1 ?_ ?_ | refine sp2 ?_ ?_ | refine sp3 ?_ ?_ | refine sp4 ?_ ?_ | refine sp5 ?_ ?_ | refine sp6 ?_ ?_ | refine sp7 ?_ ?_) <;> intro hb) <;> (simp only [go_sem, hb, int_bne])) | ((first | refine wm_done ?_ | refine wt_done ?_ | refine wg_run ?_ | refine fk ?_ ?_) <;> (simp only [go_sem, int_bne]))) | (first | (refine wl_next (wg_run ?_); (simp only [go_sem])) | refine wd_rounds 6 ?_) | ((first | refine mx 6 [] follows ?_ | refine mx 5 [] follows ?_ | refine mx 4 [] follows ?_ | refine mx 3 [] follows ?_ | refine mx 2 [] follows ?_ | refine mx 1 [] follows ?_ | refine mx 0 [] follows ?_ | fail); (simp only [go_sem, int_bne])) | (first | refine cd (hc := va) (hK := ?_) | refine cm (hc := va) (hK := ?_) | refine ct (hc := va) (hK := ?_)); (simp only [go_sem]) | (first | refine cd (hc := vb) (hK := ?_) | refine cm (hc := vb) (hK := ?_) | refine ct (hc := vb) (hK := ?_)); (simp only [go_sem]) | (first | refine cd (hc := hr) (hK := ?_) | refine cm (hc := hr) (hK := ?_) | refine ct (hc := hr) (hK := ?_)); (simp only [go_sem]) | fail)
        all_goals (refine hR _ ?_; refine rat [] (hK := ⟨rfl, rfl⟩))
  | add a b iha ihb =>
    intro hw hn hv hz
    have hr := sReduce (.add a b) hw hz rfl
    simp only [E.wf, E.noA, Bool.and_eq_true] at hw hn
    simp only [E.tm, nd, Tm.size, Tm.sizes] at hz
    have va := sIsVal a hw.1
    have vb := sIsVal b hw.2
    rw [E.val_tm] at va vb
    simp only [E.step]
    cases ea : a.val
    · rw [ea] at va
      have h1 := iha hw.1 hn.1 ea (by omega)
      cases es : a.step
      all_goals
        rw [es] at h1
        simp only [SR.map, srS, SR.tm, SR.code, SR.lab] at h1 ⊢
        simp only [E.tm, nd]
        refine fn_in ?_; refine acl_in Tryz.func78 rfl isfn_78 (Nat.le_of_ble_eq_true rfl) (fun R hR => ?_); rw [Tryz.results78] at hR; refine wg_run ?_; (simp only [Tryz.f78, go_sem])
        repeat' (first | (first | (simp only [go_sem, int_bne]) | (((first | refine sp1 ?_ ?_ | refine sp2 ?_ ?_ | refine sp3 ?_ ?_ | refine sp4 ?_ ?_ | refine sp5 ?_ ?_ | refine sp6 ?_ ?_ | refine sp7 ?_ ?_) <;> intro hb) <;> (simp only [go_sem, hb, int_bne])) | ((first | refine wm_done ?_ | refine wt_done ?_ | refine wg_run ?_ | refine fk ?_ ?_) <;> (simp only [go_sem, int_bne]))) | (first | (refine wl_next (wg_run ?_); (simp only [go_sem])) | refine wd_rounds 6 ?_) | ((first | refine mx 6 [] follows ?_ | refine mx 5 [] follows ?_ | refine mx 4 [] follows ?_ | refine mx 3 [] follows ?_ | refine mx 2 [] follows ?_ | refine mx 1 [] follows ?_ | refine mx 0 [] follows ?_ | fail); (simp only [go_sem, int_bne])) | (first | refine cd (hc := va) (hK := ?_) | refine cm (hc := va) (hK := ?_) | refine ct (hc := va) (hK := ?_)); (simp only [go_sem]) | (first | refine cd (hc := h1) (hK := ?_) | refine cm (hc := h1) (hK := ?_) | refine ct (hc := h1) (hK := ?_)); (simp only [go_sem]) | fail)
        all_goals (refine hR _ ?_; refine rat [] (hK := ⟨rfl, rfl⟩))
    · rw [ea] at va
      simp only []
      cases eb : b.val
      · rw [eb] at vb
        have h1 := ihb hw.2 hn.2 eb (by omega)
        cases es : b.step
        all_goals
          rw [es] at h1
          simp only [SR.map, srS, SR.tm, SR.code, SR.lab] at h1 ⊢
          simp only [E.tm, nd]
          refine fn_in ?_; refine acl_in Tryz.func78 rfl isfn_78 (Nat.le_of_ble_eq_true rfl) (fun R hR => ?_); rw [Tryz.results78] at hR; refine wg_run ?_; (simp only [Tryz.f78, go_sem])
          repeat' (first | (first | (simp only [go_sem, int_bne]) | (((first | refine sp1 ?_ ?_ | refine sp2 ?_ ?_ | refine sp3 ?_ ?_ | refine sp4 ?_ ?_ | refine sp5 ?_ ?_ | refine sp6 ?_ ?_ | refine sp7 ?_ ?_) <;> intro hb) <;> (simp only [go_sem, hb, int_bne])) | ((first | refine wm_done ?_ | refine wt_done ?_ | refine wg_run ?_ | refine fk ?_ ?_) <;> (simp only [go_sem, int_bne]))) | (first | (refine wl_next (wg_run ?_); (simp only [go_sem])) | refine wd_rounds 6 ?_) | ((first | refine mx 6 [] follows ?_ | refine mx 5 [] follows ?_ | refine mx 4 [] follows ?_ | refine mx 3 [] follows ?_ | refine mx 2 [] follows ?_ | refine mx 1 [] follows ?_ | refine mx 0 [] follows ?_ | fail); (simp only [go_sem, int_bne])) | (first | refine cd (hc := va) (hK := ?_) | refine cm (hc := va) (hK := ?_) | refine ct (hc := va) (hK := ?_)); (simp only [go_sem]) | (first | refine cd (hc := vb) (hK := ?_) | refine cm (hc := vb) (hK := ?_) | refine ct (hc := vb) (hK := ?_)); (simp only [go_sem]) | (first | refine cd (hc := h1) (hK := ?_) | refine cm (hc := h1) (hK := ?_) | refine ct (hc := h1) (hK := ?_)); (simp only [go_sem]) | fail)
          all_goals (refine hR _ ?_; refine rat [] (hK := ⟨rfl, rfl⟩))
      · rw [eb] at vb
        rw [red_add] at hr
        simp only []
        simp only [E.tm, nd] at hr ⊢
        unfold srS at hr ⊢
        refine fn_in ?_; refine acl_in Tryz.func78 rfl isfn_78 (Nat.le_of_ble_eq_true rfl) (fun R hR => ?_); rw [Tryz.results78] at hR; refine wg_run ?_; (simp only [Tryz.f78, go_sem])
        repeat' (first | (first | (simp only [go_sem, int_bne]) | (((first | refine sp1 ?_ ?_ | refine sp2 ?_ ?_ | refine sp3 ?_ ?_ | refine sp4 ?_ ?_ | refine sp5 ?_ ?_ | refine sp6 ?_ ?_ | refine sp7 ?_ ?_) <;> intro hb) <;> (simp only [go_sem, hb, int_bne])) | ((first | refine wm_done ?_ | refine wt_done ?_ | refine wg_run ?_ | refine fk ?_ ?_) <;> (simp only [go_sem, int_bne]))) | (first | (refine wl_next (wg_run ?_); (simp only [go_sem])) | refine wd_rounds 6 ?_) | ((first | refine mx 6 [] follows ?_ | refine mx 5 [] follows ?_ | refine mx 4 [] follows ?_ | refine mx 3 [] follows ?_ | refine mx 2 [] follows ?_ | refine mx 1 [] follows ?_ | refine mx 0 [] follows ?_ | fail); (simp only [go_sem, int_bne])) | (first | refine cd (hc := va) (hK := ?_) | refine cm (hc := va) (hK := ?_) | refine ct (hc := va) (hK := ?_)); (simp only [go_sem]) | (first | refine cd (hc := vb) (hK := ?_) | refine cm (hc := vb) (hK := ?_) | refine ct (hc := vb) (hK := ?_)); (simp only [go_sem]) | (first | refine cd (hc := hr) (hK := ?_) | refine cm (hc := hr) (hK := ?_) | refine ct (hc := hr) (hK := ?_)); (simp only [go_sem]) | fail)
        all_goals (refine hR _ ?_; refine rat [] (hK := ⟨rfl, rfl⟩))
  | less a b iha ihb =>
    intro hw hn hv hz
    have hr := sReduce (.less a b) hw hz rfl
    simp only [E.wf, E.noA, Bool.and_eq_true] at hw hn
    simp only [E.tm, nd, Tm.size, Tm.sizes] at hz
    have va := sIsVal a hw.1
    have vb := sIsVal b hw.2
    rw [E.val_tm] at va vb
    simp only [E.step]
    cases ea : a.val
    · rw [ea] at va
      have h1 := iha hw.1 hn.1 ea (by omega)
      cases es : a.step
      all_goals
        rw [es] at h1
        simp only [SR.map, srS, SR.tm, SR.code, SR.lab] at h1 ⊢
        simp only [E.tm, nd]
        refine fn_in ?_; refine acl_in Tryz.func78 rfl isfn_78 (Nat.le_of_ble_eq_true rfl) (fun R hR => ?_); rw [Tryz.results78] at hR; refine wg_run ?_; (simp only [Tryz.f78, go_sem])
        repeat' (first | (first | (simp only [go_sem, int_bne]) | (((first | refine sp1 ?_ ?_ | refine sp2 ?_ ?_ | refine sp3 ?_ ?_ | refine sp4 ?_ ?_ | refine sp5 ?_ ?_ | refine sp6 ?_ ?_ | refine sp7 ?_ ?_) <;> intro hb) <;> (simp only [go_sem, hb, int_bne])) | ((first | refine wm_done ?_ | refine wt_done ?_ | refine wg_run ?_ | refine fk ?_ ?_) <;> (simp only [go_sem, int_bne]))) | (first | (refine wl_next (wg_run ?_); (simp only [go_sem])) | refine wd_rounds 6 ?_) | ((first | refine mx 6 [] follows ?_ | refine mx 5 [] follows ?_ | refine mx 4 [] follows ?_ | refine mx 3 [] follows ?_ | refine mx 2 [] follows ?_ | refine mx 1 [] follows ?_ | refine mx 0 [] follows ?_ | fail); (simp only [go_sem, int_bne])) | (first | refine cd (hc := va) (hK := ?_) | refine cm (hc := va) (hK := ?_) | refine ct (hc := va) (hK := ?_)); (simp only [go_sem]) | (first | refine cd (hc := h1) (hK := ?_) | refine cm (hc := h1) (hK := ?_) | refine ct (hc := h1) (hK := ?_)); (simp only [go_sem]) | fail)
        all_goals (refine hR _ ?_; refine rat [] (hK := ⟨rfl, rfl⟩))
    · rw [ea] at va
      simp only []
      cases eb : b.val
      · rw [eb] at vb
        have h1 := ihb hw.2 hn.2 eb (by omega)
        cases es : b.step
        all_goals
          rw [es] at h1
          simp only [SR.map, srS, SR.tm, SR.code, SR.lab] at h1 ⊢
          simp only [E.tm, nd]
          refine fn_in ?_; refine acl_in Tryz.func78 rfl isfn_78 (Nat.le_of_ble_eq_true rfl) (fun R hR => ?_); rw [Tryz.results78] at hR; refine wg_run ?_; (simp only [Tryz.f78, go_sem])
          repeat' (first | (first | (simp only [go_sem, int_bne]) | (((first | refine sp1 ?_ ?_ | refine sp2 ?_ ?_ | refine sp3 ?_ ?_ | refine sp4 ?_ ?_ | refine sp5 ?_ ?_ | refine sp6 ?_ ?_ | refine sp7 ?_ ?_) <;> intro hb) <;> (simp only [go_sem, hb, int_bne])) | ((first | refine wm_done ?_ | refine wt_done ?_ | refine wg_run ?_ | refine fk ?_ ?_) <;> (simp only [go_sem, int_bne]))) | (first | (refine wl_next (wg_run ?_); (simp only [go_sem])) | refine wd_rounds 6 ?_) | ((first | refine mx 6 [] follows ?_ | refine mx 5 [] follows ?_ | refine mx 4 [] follows ?_ | refine mx 3 [] follows ?_ | refine mx 2 [] follows ?_ | refine mx 1 [] follows ?_ | refine mx 0 [] follows ?_ | fail); (simp only [go_sem, int_bne])) | (first | refine cd (hc := va) (hK := ?_) | refine cm (hc := va) (hK := ?_) | refine ct (hc := va) (hK := ?_)); (simp only [go_sem]) | (first | refine cd (hc := vb) (hK := ?_) | refine cm (hc := vb) (hK := ?_) | refine ct (hc := vb) (hK := ?_)); (simp only [go_sem]) | (first | refine cd (hc := h1) (hK := ?_) | refine cm (hc := h1) (hK := ?_) | refine ct (hc := h1) (hK := ?_)); (simp only [go_sem]) | fail)
          all_goals (refine hR _ ?_; refine rat [] (hK := ⟨rfl, rfl⟩))
      · rw [eb] at vb
        rw [red_less] at hr
        simp only []
        simp only [E.tm, nd] at hr ⊢
        unfold srS at hr ⊢
        refine fn_in ?_; refine acl_in Tryz.func78 rfl isfn_78 (Nat.le_of_ble_eq_true rfl) (fun R hR => ?_); rw [Tryz.results78] at hR; refine wg_run ?_; (simp only [Tryz.f78, go_sem])
        repeat' (first | (first | (simp only [go_sem, int_bne]) | (((first | refine sp1 ?_ ?_ | refine sp2 ?_ ?_ | refine sp3 ?_ ?_ | refine sp4 ?_ ?_ | refine sp5 ?_ ?_ | refine sp6 ?_ ?_ | refine sp7 ?_ ?_) <;> intro hb) <;> (simp only [go_sem, hb, int_bne])) | ((first | refine wm_done ?_ | refine wt_done ?_ | refine wg_run ?_ | refine fk ?_ ?_) <;> (simp only [go_sem, int_bne]))) | (first | (refine wl_next (wg_run ?_); (simp only [go_sem])) | refine wd_rounds 6 ?_) | ((first | refine mx 6 [] follows ?_ | refine mx 5 [] follows ?_ | refine mx 4 [] follows ?_ | refine mx 3 [] follows ?_ | refine mx 2 [] follows ?_ | refine mx 1 [] follows ?_ | refine mx 0 [] follows ?_ | fail); (simp only [go_sem, int_bne])) | (first | refine cd (hc := va) (hK := ?_) | refine cm (hc := va) (hK := ?_) | refine ct (hc := va) (hK := ?_)); (simp only [go_sem]) | (first | refine cd (hc := vb) (hK := ?_) | refine cm (hc := vb) (hK := ?_) | refine ct (hc := vb) (hK := ?_)); (simp only [go_sem]) | (first | refine cd (hc := hr) (hK := ?_) | refine cm (hc := hr) (hK := ?_) | refine ct (hc := hr) (hK := ?_)); (simp only [go_sem]) | fail)
        all_goals (refine hR _ ?_; refine rat [] (hK := ⟨rfl, rfl⟩))
  | pair a b iha ihb =>
    intro hw hn hv hz
    have hr := sReduce (.pair a b) hw hz rfl
    simp only [E.wf, E.noA, Bool.and_eq_true] at hw hn
    simp only [E.tm, nd, Tm.size, Tm.sizes] at hz
    have va := sIsVal a hw.1
    have vb := sIsVal b hw.2
    rw [E.val_tm] at va vb
    simp only [E.step]
    cases ea : a.val
    · rw [ea] at va
      have h1 := iha hw.1 hn.1 ea (by omega)
      cases es : a.step
      all_goals
        rw [es] at h1
        simp only [SR.map, srS, SR.tm, SR.code, SR.lab] at h1 ⊢
        simp only [E.tm, nd]
        refine fn_in ?_; refine acl_in Tryz.func78 rfl isfn_78 (Nat.le_of_ble_eq_true rfl) (fun R hR => ?_); rw [Tryz.results78] at hR; refine wg_run ?_; (simp only [Tryz.f78, go_sem])
        repeat' (first | (first | (simp only [go_sem, int_bne]) | (((first | refine sp1 ?_ ?_ | refine sp2 ?_ ?_ | refine sp3 ?_ ?_ | refine sp4 ?_ ?_ | refine sp5 ?_ ?_ | refine sp6 ?_ ?_ | refine sp7 ?_ ?_) <;> intro hb) <;> (simp only [go_sem, hb, int_bne])) | ((first | refine wm_done ?_ | refine wt_done ?_ | refine wg_run ?_ | refine fk ?_ ?_) <;> (simp only [go_sem, int_bne]))) | (first | (refine wl_next (wg_run ?_); (simp only [go_sem])) | refine wd_rounds 6 ?_) | ((first | refine mx 6 [] follows ?_ | refine mx 5 [] follows ?_ | refine mx 4 [] follows ?_ | refine mx 3 [] follows ?_ | refine mx 2 [] follows ?_ | refine mx 1 [] follows ?_ | refine mx 0 [] follows ?_ | fail); (simp only [go_sem, int_bne])) | (first | refine cd (hc := va) (hK := ?_) | refine cm (hc := va) (hK := ?_) | refine ct (hc := va) (hK := ?_)); (simp only [go_sem]) | (first | refine cd (hc := h1) (hK := ?_) | refine cm (hc := h1) (hK := ?_) | refine ct (hc := h1) (hK := ?_)); (simp only [go_sem]) | fail)
        all_goals (refine hR _ ?_; refine rat [] (hK := ⟨rfl, rfl⟩))
    · rw [ea] at va
      simp only []
      cases eb : b.val
      · rw [eb] at vb
        have h1 := ihb hw.2 hn.2 eb (by omega)
        cases es : b.step
        all_goals
          rw [es] at h1
          simp only [SR.map, srS, SR.tm, SR.code, SR.lab] at h1 ⊢
          simp only [E.tm, nd]
          refine fn_in ?_; refine acl_in Tryz.func78 rfl isfn_78 (Nat.le_of_ble_eq_true rfl) (fun R hR => ?_); rw [Tryz.results78] at hR; refine wg_run ?_; (simp only [Tryz.f78, go_sem])
          repeat' (first | (first | (simp only [go_sem, int_bne]) | (((first | refine sp1 ?_ ?_ | refine sp2 ?_ ?_ | refine sp3 ?_ ?_ | refine sp4 ?_ ?_ | refine sp5 ?_ ?_ | refine sp6 ?_ ?_ | refine sp7 ?_ ?_) <;> intro hb) <;> (simp only [go_sem, hb, int_bne])) | ((first | refine wm_done ?_ | refine wt_done ?_ | refine wg_run ?_ | refine fk ?_ ?_) <;> (simp only [go_sem, int_bne]))) | (first | (refine wl_next (wg_run ?_); (simp only [go_sem])) | refine wd_rounds 6 ?_) | ((first | refine mx 6 [] follows ?_ | refine mx 5 [] follows ?_ | refine mx 4 [] follows ?_ | refine mx 3 [] follows ?_ | refine mx 2 [] follows ?_ | refine mx 1 [] follows ?_ | refine mx 0 [] follows ?_ | fail); (simp only [go_sem, int_bne])) | (first | refine cd (hc := va) (hK := ?_) | refine cm (hc := va) (hK := ?_) | refine ct (hc := va) (hK := ?_)); (simp only [go_sem]) | (first | refine cd (hc := vb) (hK := ?_) | refine cm (hc := vb) (hK := ?_) | refine ct (hc := vb) (hK := ?_)); (simp only [go_sem]) | (first | refine cd (hc := h1) (hK := ?_) | refine cm (hc := h1) (hK := ?_) | refine ct (hc := h1) (hK := ?_)); (simp only [go_sem]) | fail)
          all_goals (refine hR _ ?_; refine rat [] (hK := ⟨rfl, rfl⟩))
      · simp [E.val, ea, eb] at hv
  | fst a ih =>
    intro hw hn hv hz
    have hr := sReduce (.fst a) hw hz rfl
    simp only [E.wf, E.noA, Bool.and_eq_true] at hw hn
    simp only [E.tm, nd, Tm.size, Tm.sizes] at hz
    have va := sIsVal a hw
    rw [E.val_tm] at va
    simp only [E.step]
    cases ea : a.val
    · rw [ea] at va
      have h1 := ih hw hn ea (by omega)
      cases es : a.step
      all_goals
        rw [es] at h1
        simp only [SR.map, srS, SR.tm, SR.code, SR.lab] at h1 ⊢
        simp only [E.tm, nd]
        refine fn_in ?_; refine acl_in Tryz.func78 rfl isfn_78 (Nat.le_of_ble_eq_true rfl) (fun R hR => ?_); rw [Tryz.results78] at hR; refine wg_run ?_; (simp only [Tryz.f78, go_sem])
        repeat' (first | (first | (simp only [go_sem, int_bne]) | (((first | refine sp1 ?_ ?_ | refine sp2 ?_ ?_ | refine sp3 ?_ ?_ | refine sp4 ?_ ?_ | refine sp5 ?_ ?_ | refine sp6 ?_ ?_ | refine sp7 ?_ ?_) <;> intro hb) <;> (simp only [go_sem, hb, int_bne])) | ((first | refine wm_done ?_ | refine wt_done ?_ | refine wg_run ?_ | refine fk ?_ ?_) <;> (simp only [go_sem, int_bne]))) | (first | (refine wl_next (wg_run ?_); (simp only [go_sem])) | refine wd_rounds 6 ?_) | ((first | refine mx 6 [] follows ?_ | refine mx 5 [] follows ?_ | refine mx 4 [] follows ?_ | refine mx 3 [] follows ?_ | refine mx 2 [] follows ?_ | refine mx 1 [] follows ?_ | refine mx 0 [] follows ?_ | fail); (simp only [go_sem, int_bne])) | (first | refine cd (hc := va) (hK := ?_) | refine cm (hc := va) (hK := ?_) | refine ct (hc := va) (hK := ?_)); (simp only [go_sem]) | (first | refine cd (hc := h1) (hK := ?_) | refine cm (hc := h1) (hK := ?_) | refine ct (hc := h1) (hK := ?_)); (simp only [go_sem]) | fail)
        all_goals (refine hR _ ?_; refine rat [] (hK := ⟨rfl, rfl⟩))
    · rw [ea] at va
      rw [red_fst] at hr
      simp only []
      simp only [E.tm, nd] at hr ⊢
      unfold srS at hr ⊢
      refine fn_in ?_; refine acl_in Tryz.func78 rfl isfn_78 (Nat.le_of_ble_eq_true rfl) (fun R hR => ?_); rw [Tryz.results78] at hR; refine wg_run ?_; (simp only [Tryz.f78, go_sem])
      repeat' (first | (first | (simp only [go_sem, int_bne]) | (((first | refine sp1 ?_ ?_ | refine sp2 ?_ ?_ | refine sp3 ?_ ?_ | refine sp4 ?_ ?_ | refine sp5 ?_ ?_ | refine sp6 ?_ ?_ | refine sp7 ?_ ?_) <;> intro hb) <;> (simp only [go_sem, hb, int_bne])) | ((first | refine wm_done ?_ | refine wt_done ?_ | refine wg_run ?_ | refine fk ?_ ?_) <;> (simp only [go_sem, int_bne]))) | (first | (refine wl_next (wg_run ?_); (simp only [go_sem])) | refine wd_rounds 6 ?_) | ((first | refine mx 6 [] follows ?_ | refine mx 5 [] follows ?_ | refine mx 4 [] follows ?_ | refine mx 3 [] follows ?_ | refine mx 2 [] follows ?_ | refine mx 1 [] follows ?_ | refine mx 0 [] follows ?_ | fail); (simp only [go_sem, int_bne])) | (first | refine cd (hc := va) (hK := ?_) | refine cm (hc := va) (hK := ?_) | refine ct (hc := va) (hK := ?_)); (simp only [go_sem]) | (first | refine cd (hc := hr) (hK := ?_) | refine cm (hc := hr) (hK := ?_) | refine ct (hc := hr) (hK := ?_)); (simp only [go_sem]) | fail)
      all_goals (refine hR _ ?_; refine rat [] (hK := ⟨rfl, rfl⟩))
  | snd a ih =>
    intro hw hn hv hz
    have hr := sReduce (.snd a) hw hz rfl
    simp only [E.wf, E.noA, Bool.and_eq_true] at hw hn
    simp only [E.tm, nd, Tm.size, Tm.sizes] at hz
    have va := sIsVal a hw
    rw [E.val_tm] at va
    simp only [E.step]
    cases ea : a.val
    · rw [ea] at va
      have h1 := ih hw hn ea (by omega)
      cases es : a.step
      all_goals
        rw [es] at h1
        simp only [SR.map, srS, SR.tm, SR.code, SR.lab] at h1 ⊢
        simp only [E.tm, nd]
        refine fn_in ?_; refine acl_in Tryz.func78 rfl isfn_78 (Nat.le_of_ble_eq_true rfl) (fun R hR => ?_); rw [Tryz.results78] at hR; refine wg_run ?_; (simp only [Tryz.f78, go_sem])
        repeat' (first | (first | (simp only [go_sem, int_bne]) | (((first | refine sp1 ?_ ?_ | refine sp2 ?_ ?_ | refine sp3 ?_ ?_ | refine sp4 ?_ ?_ | refine sp5 ?_ ?_ | refine sp6 ?_ ?_ | refine sp7 ?_ ?_) <;> intro hb) <;> (simp only [go_sem, hb, int_bne])) | ((first | refine wm_done ?_ | refine wt_done ?_ | refine wg_run ?_ | refine fk ?_ ?_) <;> (simp only [go_sem, int_bne]))) | (first | (refine wl_next (wg_run ?_); (simp only [go_sem])) | refine wd_rounds 6 ?_) | ((first | refine mx 6 [] follows ?_ | refine mx 5 [] follows ?_ | refine mx 4 [] follows ?_ | refine mx 3 [] follows ?_ | refine mx 2 [] follows ?_ | refine mx 1 [] follows ?_ | refine mx 0 [] follows ?_ | fail); (simp only [go_sem, int_bne])) | (first | refine cd (hc := va) (hK := ?_) | refine cm (hc := va) (hK := ?_) | refine ct (hc := va) (hK := ?_)); (simp only [go_sem]) | (first | refine cd (hc := h1) (hK := ?_) | refine cm (hc := h1) (hK := ?_) | refine ct (hc := h1) (hK := ?_)); (simp only [go_sem]) | fail)
        all_goals (refine hR _ ?_; refine rat [] (hK := ⟨rfl, rfl⟩))
    · rw [ea] at va
      rw [red_snd] at hr
      simp only []
      simp only [E.tm, nd] at hr ⊢
      unfold srS at hr ⊢
      refine fn_in ?_; refine acl_in Tryz.func78 rfl isfn_78 (Nat.le_of_ble_eq_true rfl) (fun R hR => ?_); rw [Tryz.results78] at hR; refine wg_run ?_; (simp only [Tryz.f78, go_sem])
      repeat' (first | (first | (simp only [go_sem, int_bne]) | (((first | refine sp1 ?_ ?_ | refine sp2 ?_ ?_ | refine sp3 ?_ ?_ | refine sp4 ?_ ?_ | refine sp5 ?_ ?_ | refine sp6 ?_ ?_ | refine sp7 ?_ ?_) <;> intro hb) <;> (simp only [go_sem, hb, int_bne])) | ((first | refine wm_done ?_ | refine wt_done ?_ | refine wg_run ?_ | refine fk ?_ ?_) <;> (simp only [go_sem, int_bne]))) | (first | (refine wl_next (wg_run ?_); (simp only [go_sem])) | refine wd_rounds 6 ?_) | ((first | refine mx 6 [] follows ?_ | refine mx 5 [] follows ?_ | refine mx 4 [] follows ?_ | refine mx 3 [] follows ?_ | refine mx 2 [] follows ?_ | refine mx 1 [] follows ?_ | refine mx 0 [] follows ?_ | fail); (simp only [go_sem, int_bne])) | (first | refine cd (hc := va) (hK := ?_) | refine cm (hc := va) (hK := ?_) | refine ct (hc := va) (hK := ?_)); (simp only [go_sem]) | (first | refine cd (hc := hr) (hK := ?_) | refine cm (hc := hr) (hK := ?_) | refine ct (hc := hr) (hK := ?_)); (simp only [go_sem]) | fail)
      all_goals (refine hR _ ?_; refine rat [] (hK := ⟨rfl, rfl⟩))
  | cast s t l a ih =>
    intro hw hn hv hz
    have hr := sReduce (.cast s t l a) hw hz rfl
    simp only [E.wf, E.noA, Bool.and_eq_true] at hw hn
    simp only [E.tm, nd, Tm.size, Tm.sizes] at hz
    have va := sIsVal a hw.2.2.2
    rw [E.val_tm] at va
    simp only [E.step]
    cases ea : a.val
    · rw [ea] at va
      have h1 := ih hw.2.2.2 hn ea (by omega)
      cases es : a.step
      all_goals
        rw [es] at h1
        simp only [SR.map, srS, SR.tm, SR.code, SR.lab] at h1 ⊢
        simp only [E.tm, nd]
        refine fn_in ?_; refine acl_in Tryz.func78 rfl isfn_78 (Nat.le_of_ble_eq_true rfl) (fun R hR => ?_); rw [Tryz.results78] at hR; refine wg_run ?_; (simp only [Tryz.f78, go_sem])
        repeat' (first | (first | (simp only [go_sem, int_bne]) | (((first | refine sp1 ?_ ?_ | refine sp2 ?_ ?_ | refine sp3 ?_ ?_ | refine sp4 ?_ ?_ | refine sp5 ?_ ?_ | refine sp6 ?_ ?_ | refine sp7 ?_ ?_) <;> intro hb) <;> (simp only [go_sem, hb, int_bne])) | ((first | refine wm_done ?_ | refine wt_done ?_ | refine wg_run ?_ | refine fk ?_ ?_) <;> (simp only [go_sem, int_bne]))) | (first | (refine wl_next (wg_run ?_); (simp only [go_sem])) | refine wd_rounds 6 ?_) | ((first | refine mx 6 [] follows ?_ | refine mx 5 [] follows ?_ | refine mx 4 [] follows ?_ | refine mx 3 [] follows ?_ | refine mx 2 [] follows ?_ | refine mx 1 [] follows ?_ | refine mx 0 [] follows ?_ | fail); (simp only [go_sem, int_bne])) | (first | refine cd (hc := va) (hK := ?_) | refine cm (hc := va) (hK := ?_) | refine ct (hc := va) (hK := ?_)); (simp only [go_sem]) | (first | refine cd (hc := h1) (hK := ?_) | refine cm (hc := h1) (hK := ?_) | refine ct (hc := h1) (hK := ?_)); (simp only [go_sem]) | fail)
        all_goals (refine hR _ ?_; refine rat [] (hK := ⟨rfl, rfl⟩))
    · rw [ea] at va
      rw [red_cast] at hr
      simp only []
      simp only [E.tm, nd] at hr ⊢
      unfold srS at hr ⊢
      refine fn_in ?_; refine acl_in Tryz.func78 rfl isfn_78 (Nat.le_of_ble_eq_true rfl) (fun R hR => ?_); rw [Tryz.results78] at hR; refine wg_run ?_; (simp only [Tryz.f78, go_sem])
      repeat' (first | (first | (simp only [go_sem, int_bne]) | (((first | refine sp1 ?_ ?_ | refine sp2 ?_ ?_ | refine sp3 ?_ ?_ | refine sp4 ?_ ?_ | refine sp5 ?_ ?_ | refine sp6 ?_ ?_ | refine sp7 ?_ ?_) <;> intro hb) <;> (simp only [go_sem, hb, int_bne])) | ((first | refine wm_done ?_ | refine wt_done ?_ | refine wg_run ?_ | refine fk ?_ ?_) <;> (simp only [go_sem, int_bne]))) | (first | (refine wl_next (wg_run ?_); (simp only [go_sem])) | refine wd_rounds 6 ?_) | ((first | refine mx 6 [] follows ?_ | refine mx 5 [] follows ?_ | refine mx 4 [] follows ?_ | refine mx 3 [] follows ?_ | refine mx 2 [] follows ?_ | refine mx 1 [] follows ?_ | refine mx 0 [] follows ?_ | fail); (simp only [go_sem, int_bne])) | (first | refine cd (hc := va) (hK := ?_) | refine cm (hc := va) (hK := ?_) | refine ct (hc := va) (hK := ?_)); (simp only [go_sem]) | (first | refine cd (hc := hr) (hK := ?_) | refine cm (hc := hr) (hK := ?_) | refine ct (hc := hr) (hK := ?_)); (simp only [go_sem]) | fail)
      all_goals (refine hR _ ?_; refine rat [] (hK := ⟨rfl, rfl⟩))
  | ite a b c iha ihb ihc =>
    intro hw hn hv hz
    simp only [E.wf, E.noA, Bool.and_eq_true] at hw hn
    simp only [E.tm, nd, Tm.size, Tm.sizes] at hz
    have va := sIsVal a hw.1
    rw [E.val_tm] at va
    simp only [E.step]
    cases ea : a.val
    · rw [ea] at va
      have h1 := iha hw.1 hn.1 ea (by omega)
      cases es : a.step
      all_goals
        rw [es] at h1
        simp only [SR.map, srS, SR.tm, SR.code, SR.lab] at h1 ⊢
        simp only [E.tm, nd]
        refine fn_in ?_; refine acl_in Tryz.func78 rfl isfn_78 (Nat.le_of_ble_eq_true rfl) (fun R hR => ?_); rw [Tryz.results78] at hR; refine wg_run ?_; (simp only [Tryz.f78, go_sem])
        repeat' (first | (first | (simp only [go_sem, int_bne]) | (((first | refine sp1 ?_ ?_ | refine sp2 ?_ ?_ | refine sp3 ?_ ?_ | refine sp4 ?_ ?_ | refine sp5 ?_ ?_ | refine sp6 ?_ ?_ | refine sp7 ?_ ?_) <;> intro hb) <;> (simp only [go_sem, hb, int_bne])) | ((first | refine wm_done ?_ | refine wt_done ?_ | refine wg_run ?_ | refine fk ?_ ?_) <;> (simp only [go_sem, int_bne]))) | (first | (refine wl_next (wg_run ?_); (simp only [go_sem])) | refine wd_rounds 6 ?_) | ((first | refine mx 6 [] follows ?_ | refine mx 5 [] follows ?_ | refine mx 4 [] follows ?_ | refine mx 3 [] follows ?_ | refine mx 2 [] follows ?_ | refine mx 1 [] follows ?_ | refine mx 0 [] follows ?_ | fail); (simp only [go_sem, int_bne])) | (first | refine cd (hc := va) (hK := ?_) | refine cm (hc := va) (hK := ?_) | refine ct (hc := va) (hK := ?_)); (simp only [go_sem]) | (first | refine cd (hc := h1) (hK := ?_) | refine cm (hc := h1) (hK := ?_) | refine ct (hc := h1) (hK := ?_)); (simp only [go_sem]) | fail)
        all_goals (refine hR _ ?_; refine rat [] (hK := ⟨rfl, rfl⟩))
    · rw [ea] at va
      cases a <;> simp only [E.val, Bool.false_eq_true] at ea
      all_goals
        simp only [ruleIte, srS, SR.tm, SR.code, SR.lab]
        simp only [E.tm, nd] at va ⊢
        refine fn_in ?_; refine acl_in Tryz.func78 rfl isfn_78 (Nat.le_of_ble_eq_true rfl) (fun R hR => ?_); rw [Tryz.results78] at hR; refine wg_run ?_; (simp only [Tryz.f78, go_sem])
        repeat' (first | (first | (simp only [go_sem, int_bne]) | (((first | refine sp1 ?_ ?_ | refine sp2 ?_ ?_ | refine sp3 ?_ ?_ | refine sp4 ?_ ?_ | refine sp5 ?_ ?_ | refine sp6 ?_ ?_ | refine sp7 ?_ ?_) <;> intro hb) <;> (simp only [go_sem, hb, int_bne])) | ((first | refine wm_done ?_ | refine wt_done ?_ | refine wg_run ?_ | refine fk ?_ ?_) <;> (simp only [go_sem, int_bne]))) | (first | (refine wl_next (wg_run ?_); (simp only [go_sem])) | refine wd_rounds 6 ?_) | ((first | refine mx 6 [] follows ?_ | refine mx 5 [] follows ?_ | refine mx 4 [] follows ?_ | refine mx 3 [] follows ?_ | refine mx 2 [] follows ?_ | refine mx 1 [] follows ?_ | refine mx 0 [] follows ?_ | fail); (simp only [go_sem, int_bne])) | (first | refine cd (hc := va) (hK := ?_) | refine cm (hc := va) (hK := ?_) | refine ct (hc := va) (hK := ?_)); (simp only [go_sem]) | fail)
        all_goals (refine hR _ ?_; refine rat [] (hK := ⟨rfl, rfl⟩))
  | var x =>
    intro hw hn hv hz
    have hr := sReduce (.var x) hw hz rfl
    simp only [E.step]
    simp only [E.red, E.ruleI, E.castR] at hr
    simp only [E.tm, nd] at hr ⊢
    unfold srS at hr ⊢
    refine fn_in ?_; refine acl_in Tryz.func78 rfl isfn_78 (Nat.le_of_ble_eq_true rfl) (fun R hR => ?_); rw [Tryz.results78] at hR; refine wg_run ?_; (simp only [Tryz.f78, go_sem])
    repeat' (first | (first | (simp only [go_sem, int_bne]) | (((first | refine sp1 ?_ ?_ | refine sp2 ?_ ?_ | refine sp3 ?_ ?_ | refine sp4 ?_ ?_ | refine sp5 ?_ ?_ | refine sp6 ?_ ?_ | refine sp7 ?_ ?_) <;> intro hb) <;> (simp only [go_sem, hb, int_bne])) | ((first | refine wm_done ?_ | refine wt_done ?_ | refine wg_run ?_ | refine fk ?_ ?_) <;> (simp only [go_sem, int_bne]))) | (first | (refine wl_next (wg_run ?_); (simp only [go_sem])) | refine wd_rounds 6 ?_) | ((first | refine mx 6 [] follows ?_ | refine mx 5 [] follows ?_ | refine mx 4 [] follows ?_ | refine mx 3 [] follows ?_ | refine mx 2 [] follows ?_ | refine mx 1 [] follows ?_ | refine mx 0 [] follows ?_ | fail); (simp only [go_sem, int_bne])) | (first | refine cd (hc := hr) (hK := ?_) | refine cm (hc := hr) (hK := ?_) | refine ct (hc := hr) (hK := ?_)); (simp only [go_sem]) | fail)
    all_goals (refine hR _ ?_; refine rat [] (hK := ⟨rfl, rfl⟩))
  | num _ | tru | fls => intro _ _ hv; simp [E.val] at hv
  | lam _ _ a ih => intro _ _ hv; simp [E.val] at hv
  | _ => intro _ hn; simp [E.noA] at hn
end Go.Proofs.YtnaebafafhamjaaGreat
/- Evaluation of terms with casts, in the program and in the reference. On shadows. -/
namespace Go.Proofs.YtnaebafafhamjaaGreat
open Go.RowKit Go.Proofs.Sh Go.Proofs.Grad
set_option maxRecDepth 100000
set_option maxHeartbeats 8000000
theorem tm_nodes40 (e : E) : e.wf = true → e.tm.size ≤ 40 * e.nodes := by
  have hno : noTy.size = 1 := rfl
  induction e with
  | var _ | num _ | tru | fls => intro _; simp only [E.tm, nd, Tm.size, Tm.sizes, hno, E.nodes]; omega
  | lam x t a ih => intro hw; simp only [E.wf, Bool.and_eq_true, decide_eq_true_eq] at hw; have := ih hw.2.2; have := (Ty.valid_16 (t := t.ty) (by rw [T.valid_ty]; simpa using hw.2.1)); simp only [E.tm, nd, Tm.size, Tm.sizes, hno, E.nodes]; omega
  | app a b iha ihb | add a b iha ihb | less a b iha ihb | pair a b iha ihb => intro hw; simp only [E.wf, Bool.and_eq_true] at hw; have := iha hw.1; have := ihb hw.2; simp only [E.tm, nd, Tm.size, Tm.sizes, hno, E.nodes]; omega
  | ite a b c iha ihb ihc => intro hw; simp only [E.wf, Bool.and_eq_true] at hw; have := iha hw.1; have := ihb hw.2.1; have := ihc hw.2.2; simp only [E.tm, nd, Tm.size, Tm.sizes, hno, E.nodes]; omega
  | fst a ih | snd a ih => intro hw; have := ih hw; simp only [E.tm, nd, Tm.size, Tm.sizes, hno, E.nodes]; omega
  | asc t a ih => intro hw; simp only [E.wf, Bool.and_eq_true, decide_eq_true_eq] at hw; have := ih hw.2; have := (Ty.valid_16 (t := t.ty) (by rw [T.valid_ty]; simpa using hw.1)); simp only [E.tm, nd, Tm.size, Tm.sizes, hno, E.nodes]; omega
  | cast s t l a ih => intro hw; simp only [E.wf, Bool.and_eq_true, decide_eq_true_eq] at hw; have := ih hw.2.2.2; have := (Ty.valid_16 (t := t.ty) (by rw [T.valid_ty]; simpa using hw.1.2)); have := (Ty.valid_16 (t := s.ty) (by rw [T.valid_ty]; simpa using hw.1.1)); simp only [E.tm, nd, Tm.size, Tm.sizes, hno, E.nodes]; omega
theorem okC_small {e : E} (h : e.okC = true) : e.tm.size < 100000000 := by
  simp only [E.okC, Bool.and_eq_true, decide_eq_true_eq] at h
  have := tm_nodes40 e h.1
  omega
def scT (r : SC) : AV := .tup [.agg (teC r.tm), .one (.sc (.int .i64 r.code)), .one (.sc (.int .i64 r.lab))]
def badT : AV := .tup [.agg (teC tm0), .one (.sc (.int .i64 3)), .one (.sc (.int .i64 0))]
theorem code_took {r : SR} (h : (r.code == 1) = true) : ∃ x, r = .took x := by
  cases r with
  | took x => exact ⟨x, rfl⟩
  | _ => simp [SR.code] at h
theorem iStepBad (t : Tm) (h : t.castV = false) : AFn Tryz.prog 73 [.agg (teC t)] badT := by
  have hv := iCastV t
  rw [h] at hv
  unfold badT
  simp only [tm0, noTy]
  refine fn_in ?_; refine acl_in Tryz.func73 rfl isfn_73 (Nat.le_of_ble_eq_true rfl) (fun R hR => ?_); rw [Tryz.results73] at hR; refine wg_run ?_; (simp only [Tryz.f73, go_sem])
  repeat' (first | (first | (simp only [go_sem, int_bne]) | (((first | refine sp1 ?_ ?_ | refine sp2 ?_ ?_ | refine sp3 ?_ ?_ | refine sp4 ?_ ?_ | refine sp5 ?_ ?_ | refine sp6 ?_ ?_ | refine sp7 ?_ ?_) <;> intro hb) <;> (simp only [go_sem, hb, int_bne])) | ((first | refine wm_done ?_ | refine wt_done ?_ | refine wg_run ?_ | refine fk ?_ ?_) <;> (simp only [go_sem, int_bne]))) | (first | refine cd (hc := hv) (hK := ?_) | refine cm (hc := hv) (hK := ?_) | refine ct (hc := hv) (hK := ?_)); (simp only [go_sem]) | fail)
  all_goals (refine hR _ ?_; refine rat [] (hK := ⟨rfl, rfl⟩))
theorem iStepCast (e : E) (h : e.okC = true) : AFn Tryz.prog 73 [.agg (teC e.tm)] (scT e.sc) := by
  have hz := okC_small h
  have hv := iCastV e.tm
  rw [E.castV_tm, h] at hv
  have hval := iIsVal 100000000 (by omega) e.tm hz
  rw [E.val_tm] at hval
  simp only [E.okC, Bool.and_eq_true] at h
  have ho := iOwn e h.1
  unfold E.sc
  cases ev : e.val
  · rw [ev] at hval
    have hs := iStep e h.1 h.2.1 ev hz
    simp only [stT] at hs
    simp only []
    cases es : e.step with
    | took x =>
      rw [E.so_took e x ev es, es] at hs
      obtain ⟨xw, xn⟩ := E.step_wf h.1 h.2.1 es
      have hv2 := iCastV x.tm
      rw [E.castV_tm] at hv2
      have ho2 := iOwn x xw
      simp only [SR.code, SR.lab] at hs
      simp only []
      cases eo : x.okC
      all_goals
        rw [eo] at hv2
        simp only [scT, SC.tm, SC.code, SC.lab]
        (try simp only [tm0, noTy])
        refine fn_in ?_; refine acl_in Tryz.func73 rfl isfn_73 (Nat.le_of_ble_eq_true rfl) (fun R hR => ?_); rw [Tryz.results73] at hR; refine wg_run ?_; (simp only [Tryz.f73, go_sem])
        repeat' (first | (first | (simp only [go_sem, int_bne]) | (((first | refine sp1 ?_ ?_ | refine sp2 ?_ ?_ | refine sp3 ?_ ?_ | refine sp4 ?_ ?_ | refine sp5 ?_ ?_ | refine sp6 ?_ ?_ | refine sp7 ?_ ?_) <;> intro hb) <;> (simp only [go_sem, hb, int_bne])) | ((first | refine wm_done ?_ | refine wt_done ?_ | refine wg_run ?_ | refine fk ?_ ?_) <;> (simp only [go_sem, int_bne]))) | (first | refine cd (hc := hv) (hK := ?_) | refine cm (hc := hv) (hK := ?_) | refine ct (hc := hv) (hK := ?_)); (simp only [go_sem]) | (first | refine cd (hc := hval) (hK := ?_) | refine cm (hc := hval) (hK := ?_) | refine ct (hc := hval) (hK := ?_)); (simp only [go_sem]) | (first | refine cd (hc := hs) (hK := ?_) | refine cm (hc := hs) (hK := ?_) | refine ct (hc := hs) (hK := ?_)); (simp only [go_sem]) | (first | refine cd (hc := hv2) (hK := ?_) | refine cm (hc := hv2) (hK := ?_) | refine ct (hc := hv2) (hK := ?_)); (simp only [go_sem]) | (first | refine cd (hc := ho2) (hK := ?_) | refine cm (hc := ho2) (hK := ?_) | refine ct (hc := ho2) (hK := ?_)); (simp only [go_sem]) | fail)
        all_goals (refine hR _ ?_; refine rat [] (hK := ⟨rfl, rfl⟩))
    | blame l =>
      rw [es] at hs
      simp only [SR.code, SR.lab] at hs
      simp only [scT, SC.tm, SC.code, SC.lab]
      simp only [tm0, noTy]
      refine fn_in ?_; refine acl_in Tryz.func73 rfl isfn_73 (Nat.le_of_ble_eq_true rfl) (fun R hR => ?_); rw [Tryz.results73] at hR; refine wg_run ?_; (simp only [Tryz.f73, go_sem])
      repeat' (first | (first | (simp only [go_sem, int_bne]) | (((first | refine sp1 ?_ ?_ | refine sp2 ?_ ?_ | refine sp3 ?_ ?_ | refine sp4 ?_ ?_ | refine sp5 ?_ ?_ | refine sp6 ?_ ?_ | refine sp7 ?_ ?_) <;> intro hb) <;> (simp only [go_sem, hb, int_bne])) | ((first | refine wm_done ?_ | refine wt_done ?_ | refine wg_run ?_ | refine fk ?_ ?_) <;> (simp only [go_sem, int_bne]))) | (first | refine cd (hc := hv) (hK := ?_) | refine cm (hc := hv) (hK := ?_) | refine ct (hc := hv) (hK := ?_)); (simp only [go_sem]) | (first | refine cd (hc := hval) (hK := ?_) | refine cm (hc := hval) (hK := ?_) | refine ct (hc := hval) (hK := ?_)); (simp only [go_sem]) | (first | refine cd (hc := hs) (hK := ?_) | refine cm (hc := hs) (hK := ?_) | refine ct (hc := hs) (hK := ?_)); (simp only [go_sem]) | fail)
      all_goals (refine hR _ ?_; refine rat [] (hK := ⟨rfl, rfl⟩))
    | stuck =>
      rw [es] at hs
      simp only [SR.code, SR.lab] at hs
      simp only [scT, SC.tm, SC.code, SC.lab]
      simp only [tm0, noTy]
      refine fn_in ?_; refine acl_in Tryz.func73 rfl isfn_73 (Nat.le_of_ble_eq_true rfl) (fun R hR => ?_); rw [Tryz.results73] at hR; refine wg_run ?_; (simp only [Tryz.f73, go_sem])
      repeat' (first | (first | (simp only [go_sem, int_bne]) | (((first | refine sp1 ?_ ?_ | refine sp2 ?_ ?_ | refine sp3 ?_ ?_ | refine sp4 ?_ ?_ | refine sp5 ?_ ?_ | refine sp6 ?_ ?_ | refine sp7 ?_ ?_) <;> intro hb) <;> (simp only [go_sem, hb, int_bne])) | ((first | refine wm_done ?_ | refine wt_done ?_ | refine wg_run ?_ | refine fk ?_ ?_) <;> (simp only [go_sem, int_bne]))) | (first | refine cd (hc := hv) (hK := ?_) | refine cm (hc := hv) (hK := ?_) | refine ct (hc := hv) (hK := ?_)); (simp only [go_sem]) | (first | refine cd (hc := hval) (hK := ?_) | refine cm (hc := hval) (hK := ?_) | refine ct (hc := hval) (hK := ?_)); (simp only [go_sem]) | (first | refine cd (hc := hs) (hK := ?_) | refine cm (hc := hs) (hK := ?_) | refine ct (hc := hs) (hK := ?_)); (simp only [go_sem]) | fail)
      all_goals (refine hR _ ?_; refine rat [] (hK := ⟨rfl, rfl⟩))
  · rw [ev] at hval
    simp only [scT, SC.tm, SC.code, SC.lab]
    refine fn_in ?_; refine acl_in Tryz.func73 rfl isfn_73 (Nat.le_of_ble_eq_true rfl) (fun R hR => ?_); rw [Tryz.results73] at hR; refine wg_run ?_; (simp only [Tryz.f73, go_sem])
    repeat' (first | (first | (simp only [go_sem, int_bne]) | (((first | refine sp1 ?_ ?_ | refine sp2 ?_ ?_ | refine sp3 ?_ ?_ | refine sp4 ?_ ?_ | refine sp5 ?_ ?_ | refine sp6 ?_ ?_ | refine sp7 ?_ ?_) <;> intro hb) <;> (simp only [go_sem, hb, int_bne])) | ((first | refine wm_done ?_ | refine wt_done ?_ | refine wg_run ?_ | refine fk ?_ ?_) <;> (simp only [go_sem, int_bne]))) | (first | refine cd (hc := hv) (hK := ?_) | refine cm (hc := hv) (hK := ?_) | refine ct (hc := hv) (hK := ?_)); (simp only [go_sem]) | (first | refine cd (hc := hval) (hK := ?_) | refine cm (hc := hval) (hK := ?_) | refine ct (hc := hval) (hK := ?_)); (simp only [go_sem]) | (first | refine cd (hc := ho) (hK := ?_) | refine cm (hc := ho) (hK := ?_) | refine ct (hc := ho) (hK := ?_)); (simp only [go_sem]) | fail)
    all_goals (refine hR _ ?_; refine rat [] (hK := ⟨rfl, rfl⟩))
theorem sStepBad (t : Tm) (h : t.castV = false) (hz : t.size < 4611686018427387904) : AFn Tryz.prog 37 [.agg (teC t)] badT := by
  have hv := sCastV t hz
  rw [h] at hv
  unfold badT
  simp only [tm0, noTy]
  refine fn_in ?_; refine acl_in Tryz.func37 rfl isfn_37 (Nat.le_of_ble_eq_true rfl) (fun R hR => ?_); rw [Tryz.results37] at hR; refine wg_run ?_; (simp only [Tryz.f37, go_sem])
  repeat' (first | (first | (simp only [go_sem, int_bne]) | (((first | refine sp1 ?_ ?_ | refine sp2 ?_ ?_ | refine sp3 ?_ ?_ | refine sp4 ?_ ?_ | refine sp5 ?_ ?_ | refine sp6 ?_ ?_ | refine sp7 ?_ ?_) <;> intro hb) <;> (simp only [go_sem, hb, int_bne])) | ((first | refine wm_done ?_ | refine wt_done ?_ | refine wg_run ?_ | refine fk ?_ ?_) <;> (simp only [go_sem, int_bne]))) | (first | refine cd (hc := hv) (hK := ?_) | refine cm (hc := hv) (hK := ?_) | refine ct (hc := hv) (hK := ?_)); (simp only [go_sem]) | fail)
  all_goals (refine hR _ ?_; refine rat [] (hK := ⟨rfl, rfl⟩))
theorem sStepCast (e : E) (h : e.okC = true) : AFn Tryz.prog 37 [.agg (teC e.tm)] (scT e.sc) := by
  have hz := okC_small h
  have hv := sCastV e.tm (by omega)
  rw [E.castV_tm, h] at hv
  simp only [E.okC, Bool.and_eq_true] at h
  have hval := sIsVal e h.1
  rw [E.val_tm] at hval
  have ho := l2Copy 274877906944 (by omega) e.tm (by omega)
  unfold E.sc
  cases ev : e.val
  · rw [ev] at hval
    have hs := sStep e h.1 h.2.1 ev hz
    simp only [srS] at hs
    simp only []
    cases es : e.step with
    | took x =>
      rw [es] at hs
      obtain ⟨xw, xn⟩ := E.step_wf h.1 h.2.1 es
      have hxz : x.tm.size < 1000000000 := by have h4 := E.step_nodes es (of_decide_eq_true h.2.2.2); have := tm_nodes40 x xw; omega
      have hv2 := sCastV x.tm (by omega)
      rw [E.castV_tm] at hv2
      have ho2 := l2Copy 274877906944 (by omega) x.tm (by omega)
      simp only [SR.code, SR.lab, SR.tm] at hs
      simp only []
      cases eo : x.okC
      all_goals
        rw [eo] at hv2
        simp only [scT, SC.tm, SC.code, SC.lab]
        (try simp only [tm0, noTy])
        refine fn_in ?_; refine acl_in Tryz.func37 rfl isfn_37 (Nat.le_of_ble_eq_true rfl) (fun R hR => ?_); rw [Tryz.results37] at hR; refine wg_run ?_; (simp only [Tryz.f37, go_sem])
        repeat' (first | (first | (simp only [go_sem, int_bne]) | (((first | refine sp1 ?_ ?_ | refine sp2 ?_ ?_ | refine sp3 ?_ ?_ | refine sp4 ?_ ?_ | refine sp5 ?_ ?_ | refine sp6 ?_ ?_ | refine sp7 ?_ ?_) <;> intro hb) <;> (simp only [go_sem, hb, int_bne])) | ((first | refine wm_done ?_ | refine wt_done ?_ | refine wg_run ?_ | refine fk ?_ ?_) <;> (simp only [go_sem, int_bne]))) | (first | refine cd (hc := hv) (hK := ?_) | refine cm (hc := hv) (hK := ?_) | refine ct (hc := hv) (hK := ?_)); (simp only [go_sem]) | (first | refine cd (hc := hval) (hK := ?_) | refine cm (hc := hval) (hK := ?_) | refine ct (hc := hval) (hK := ?_)); (simp only [go_sem]) | (first | refine cd (hc := hs) (hK := ?_) | refine cm (hc := hs) (hK := ?_) | refine ct (hc := hs) (hK := ?_)); (simp only [go_sem]) | (first | refine cd (hc := hv2) (hK := ?_) | refine cm (hc := hv2) (hK := ?_) | refine ct (hc := hv2) (hK := ?_)); (simp only [go_sem]) | (first | refine cd (hc := ho2) (hK := ?_) | refine cm (hc := ho2) (hK := ?_) | refine ct (hc := ho2) (hK := ?_)); (simp only [go_sem]) | fail)
        all_goals (refine hR _ ?_; refine rat [] (hK := ⟨rfl, rfl⟩))
    | blame l =>
      rw [es] at hs
      simp only [SR.code, SR.lab, SR.tm] at hs
      simp only [scT, SC.tm, SC.code, SC.lab]
      simp only [tm0, noTy] at hs ⊢
      refine fn_in ?_; refine acl_in Tryz.func37 rfl isfn_37 (Nat.le_of_ble_eq_true rfl) (fun R hR => ?_); rw [Tryz.results37] at hR; refine wg_run ?_; (simp only [Tryz.f37, go_sem])
      repeat' (first | (first | (simp only [go_sem, int_bne]) | (((first | refine sp1 ?_ ?_ | refine sp2 ?_ ?_ | refine sp3 ?_ ?_ | refine sp4 ?_ ?_ | refine sp5 ?_ ?_ | refine sp6 ?_ ?_ | refine sp7 ?_ ?_) <;> intro hb) <;> (simp only [go_sem, hb, int_bne])) | ((first | refine wm_done ?_ | refine wt_done ?_ | refine wg_run ?_ | refine fk ?_ ?_) <;> (simp only [go_sem, int_bne]))) | (first | refine cd (hc := hv) (hK := ?_) | refine cm (hc := hv) (hK := ?_) | refine ct (hc := hv) (hK := ?_)); (simp only [go_sem]) | (first | refine cd (hc := hval) (hK := ?_) | refine cm (hc := hval) (hK := ?_) | refine ct (hc := hval) (hK := ?_)); (simp only [go_sem]) | (first | refine cd (hc := hs) (hK := ?_) | refine cm (hc := hs) (hK := ?_) | refine ct (hc := hs) (hK := ?_)); (simp only [go_sem]) | fail)
      all_goals (refine hR _ ?_; refine rat [] (hK := ⟨rfl, rfl⟩))
    | stuck =>
      rw [es] at hs
      simp only [SR.code, SR.lab, SR.tm] at hs
      simp only [scT, SC.tm, SC.code, SC.lab]
      simp only [tm0, noTy] at hs ⊢
      refine fn_in ?_; refine acl_in Tryz.func37 rfl isfn_37 (Nat.le_of_ble_eq_true rfl) (fun R hR => ?_); rw [Tryz.results37] at hR; refine wg_run ?_; (simp only [Tryz.f37, go_sem])
      repeat' (first | (first | (simp only [go_sem, int_bne]) | (((first | refine sp1 ?_ ?_ | refine sp2 ?_ ?_ | refine sp3 ?_ ?_ | refine sp4 ?_ ?_ | refine sp5 ?_ ?_ | refine sp6 ?_ ?_ | refine sp7 ?_ ?_) <;> intro hb) <;> (simp only [go_sem, hb, int_bne])) | ((first | refine wm_done ?_ | refine wt_done ?_ | refine wg_run ?_ | refine fk ?_ ?_) <;> (simp only [go_sem, int_bne]))) | (first | refine cd (hc := hv) (hK := ?_) | refine cm (hc := hv) (hK := ?_) | refine ct (hc := hv) (hK := ?_)); (simp only [go_sem]) | (first | refine cd (hc := hval) (hK := ?_) | refine cm (hc := hval) (hK := ?_) | refine ct (hc := hval) (hK := ?_)); (simp only [go_sem]) | (first | refine cd (hc := hs) (hK := ?_) | refine cm (hc := hs) (hK := ?_) | refine ct (hc := hs) (hK := ?_)); (simp only [go_sem]) | fail)
      all_goals (refine hR _ ?_; refine rat [] (hK := ⟨rfl, rfl⟩))
  · rw [ev] at hval
    simp only [scT, SC.tm, SC.code, SC.lab]
    refine fn_in ?_; refine acl_in Tryz.func37 rfl isfn_37 (Nat.le_of_ble_eq_true rfl) (fun R hR => ?_); rw [Tryz.results37] at hR; refine wg_run ?_; (simp only [Tryz.f37, go_sem])
    repeat' (first | (first | (simp only [go_sem, int_bne]) | (((first | refine sp1 ?_ ?_ | refine sp2 ?_ ?_ | refine sp3 ?_ ?_ | refine sp4 ?_ ?_ | refine sp5 ?_ ?_ | refine sp6 ?_ ?_ | refine sp7 ?_ ?_) <;> intro hb) <;> (simp only [go_sem, hb, int_bne])) | ((first | refine wm_done ?_ | refine wt_done ?_ | refine wg_run ?_ | refine fk ?_ ?_) <;> (simp only [go_sem, int_bne]))) | (first | refine cd (hc := hv) (hK := ?_) | refine cm (hc := hv) (hK := ?_) | refine ct (hc := hv) (hK := ?_)); (simp only [go_sem]) | (first | refine cd (hc := hval) (hK := ?_) | refine cm (hc := hval) (hK := ?_) | refine ct (hc := hval) (hK := ?_)); (simp only [go_sem]) | (first | refine cd (hc := ho) (hK := ?_) | refine cm (hc := ho) (hK := ?_) | refine ct (hc := ho) (hK := ?_)); (simp only [go_sem]) | fail)
    all_goals (refine hR _ ?_; refine rat [] (hK := ⟨rfl, rfl⟩))
end Go.Proofs.YtnaebafafhamjaaGreat
/- Casts that are nested directly. No program, no world. -/
namespace Go.Proofs.Grad
/-- the greatest number of casts nested directly; so many above -/
def E.pend : E → Nat → Nat
  | .var _, _ | .num _, _ | .tru, _ | .fls, _ => 0
  | .lam _ _ a, _ | .fst a, _ | .snd a, _ | .asc _ a, _ => a.pend 0
  | .app a b, _ | .add a b, _ | .less a b, _ | .pair a b, _ => max (a.pend 0) (b.pend 0)
  | .ite a b c, _ => max (max (a.pend 0) (b.pend 0)) (c.pend 0)
  | .cast _ _ _ a, k => max (k + 1) (a.pend (k + 1))
def E.lead : E → Nat | .cast _ _ _ a => a.lead + 1 | _ => 0
def E.nest : E → Nat
  | .var _ | .num _ | .tru | .fls => 0
  | .lam _ _ a | .fst a | .snd a | .asc _ a => a.nest
  | .app a b | .add a b | .less a b | .pair a b => max a.nest b.nest
  | .ite a b c => max (max a.nest b.nest) c.nest
  | .cast _ _ _ a => max (a.lead + 1) a.nest
theorem E.lead_nest (e : E) : e.lead ≤ e.nest := by cases e <;> simp only [E.lead, E.nest] <;> omega
theorem E.pend_eq (e : E) : ∀ k : Nat, e.pend k = max (match e.lead with | 0 => 0 | n + 1 => k + n + 1) e.nest := by
  have hz : ∀ x : E, max (match x.lead with | 0 => 0 | n + 1 => 0 + n + 1) x.nest = x.nest := by
    intro x
    have := x.lead_nest
    cases h : x.lead with
    | zero => simp
    | succ n => simp only []; omega
  induction e with
  | cast s t l a ih =>
    intro k
    simp only [E.pend, E.lead, E.nest, ih]
    have := a.lead_nest
    cases h : a.lead with
    | zero => simp only []; omega
    | succ n => simp only []; omega
  | var _ | num _ | tru | fls => intro k; simp [E.pend, E.lead, E.nest]
  | lam _ _ a ih | fst a ih | snd a ih | asc _ a ih => intro k; simp only [E.pend, E.lead, E.nest, ih, hz]; omega
  | app a b iha ihb | add a b iha ihb | less a b iha ihb | pair a b iha ihb => intro k; simp only [E.pend, E.lead, E.nest, iha, ihb, hz]; omega
  | ite a b c iha ihb ihc => intro k; simp only [E.pend, E.lead, E.nest, iha, ihb, ihc, hz]; omega
theorem E.pend_nest (e : E) : e.pend 0 = e.nest := by
  rw [E.pend_eq]
  have := e.lead_nest
  cases h : e.lead with
  | zero => simp
  | succ n => simp only []; omega
theorem E.nest_nodes (e : E) : e.nest ≤ e.nodes ∧ e.lead ≤ e.nodes := by
  induction e <;> simp only [E.nest, E.lead, E.nodes] <;> omega
/-- the greatest number among the terms that are reached -/
def E.pI : Nat → E → Nat → Nat
  | 0, _, b => b
  | k + 1, x, b => match x.sc with | .took y => y.pI k (max b y.nest) | _ => b
theorem E.pI_took {x y : E} (h : x.sc = .took y) (k b : Nat) : x.pI (k + 1) b = y.pI k (max b y.nest) := by simp only [E.pI, h]
theorem E.pI_stop {x : E} (h : ∀ y, x.sc ≠ .took y) (k b : Nat) : x.pI k b = b := by
  cases k with
  | zero => rfl
  | succ k =>
    rw [E.pI]
    cases hx : x.sc with
    | took y => exact absurd hx (h y)
    | _ => rfl
/-- how many steps -/
noncomputable def Tm.countV (t : Tm) (f : Int) : Nat := by
  classical
  exact if h : t.castV = true then (match decide (0 ≤ f) && decide (f ≤ 300) with | true => ((Classical.choose (Tm.castV_E h)).evI f.toNat 0).2 | false => 0) else 0
theorem Tm.countV_E {e : E} (h : e.okC = true) (f : Nat) (hf : f ≤ 300) : e.tm.countV f = (e.evI f 0).2 := by
  have h' : e.tm.castV = true := by rw [E.castV_tm]; exact h
  unfold Tm.countV
  rw [dif_pos h', E.tm_inj _ _ (Classical.choose_spec (Tm.castV_E h')).1]
  have : (decide ((0 : Int) ≤ (f : Int)) && decide ((f : Int) ≤ 300)) = true := by simp; omega
  rw [this]
  rfl
theorem Tm.countV_bad {t : Tm} (h : t.castV = false) (f : Int) : t.countV f = 0 := by unfold Tm.countV; rw [dif_neg (by simp [h])]
theorem Tm.countV_off (t : Tm) {f : Int} (h : (decide (0 ≤ f) && decide (f ≤ 300)) = false) : t.countV f = 0 := by
  unfold Tm.countV; split
  · rw [h]
  · rfl
/-- the greatest number of pending casts -/
noncomputable def Tm.pendV (t : Tm) (f : Int) : Nat := by
  classical
  exact if h : t.castV = true then (match decide (0 ≤ f) && decide (f ≤ 300) with | true => (Classical.choose (Tm.castV_E h)).pI f.toNat (Classical.choose (Tm.castV_E h)).nest | false => 0) else 0
theorem Tm.pendV_E {e : E} (h : e.okC = true) (f : Nat) (hf : f ≤ 300) : Tm.pendV e.tm f = e.pI f e.nest := by
  have h' : e.tm.castV = true := by rw [E.castV_tm]; exact h
  unfold Tm.pendV
  rw [dif_pos h', E.tm_inj _ _ (Classical.choose_spec (Tm.castV_E h')).1]
  have : (decide ((0 : Int) ≤ (f : Int)) && decide ((f : Int) ≤ 300)) = true := by simp; omega
  rw [this]
  rfl
theorem Tm.pendV_bad {t : Tm} (h : t.castV = false) (f : Int) : Tm.pendV t f = 0 := by unfold Tm.pendV; rw [dif_neg (by simp [h])]
theorem Tm.pendV_off (t : Tm) {f : Int} (h : (decide (0 ≤ f) && decide (f ≤ 300)) = false) : Tm.pendV t f = 0 := by
  unfold Tm.pendV; split
  · rw [h]
  · rfl
end Go.Proofs.Grad
/- Evaluation of terms with casts, in the program and in the reference. On shadows. -/
namespace Go.Proofs.Grad
theorem E.evI_stop {e : E} (h : ∀ x, e.sc ≠ .took x) (m n : Nat) : e.evI m n = (e.sc, n) := by
  cases m with
  | zero => rfl
  | succ m =>
    rw [E.evI]
    cases hx : e.sc with
    | took y => exact absurd hx (h y)
    | _ => rfl
theorem E.evI_took {e x : E} (h : e.sc = .took x) (m n : Nat) : e.evI (m + 1) n = x.evI m (n + 1) := by
  simp only [E.evI, h]
end Go.Proofs.Grad
namespace Go.Proofs.YtnaebafafhamjaaGreat
open Go.RowKit Go.Proofs.Sh Go.Proofs.Grad
set_option maxRecDepth 100000
set_option maxHeartbeats 8000000
def evT (r : SC × Nat) : AV := .tup [.agg (teC r.1.tm), .one (.sc (.int .i64 r.1.code)), .one (.sc (.int .i64 r.1.lab)), .one (.sc (.int .i64 (r.2 : Nat)))]
def evS (r : SC × Nat) : AV := .tup [.agg (teC r.1.etm), .one (.sc (.int .i64 r.1.ecode)), .one (.sc (.int .i64 r.1.lab)), .one (.sc (.int .i64 (r.2 : Nat)))]
def evBad : AV := .tup [.agg (teC tm0), .one (.sc (.int .i64 3)), .one (.sc (.int .i64 0)), .one (.sc (.int .i64 0))]
theorem iEvalBad (g : FuncId) (hg : ∀ t : Tm, AFn Tryz.prog g [.agg (teC t)] (.tup [])) (t : Tm) (h : t.castV = false) (f : Int) : AFn Tryz.prog 32 [.agg (teC t), .one (.sc (.int .i64 f)), .one (.fn g [])] evBad := by
  have hs := iStepBad t h
  unfold evBad
  simp only [badT, tm0, noTy] at hs ⊢
  refine fn_in ?_; refine acl_in Tryz.func32 rfl isfn_32 (Nat.le_of_ble_eq_true rfl) (fun R hR => ?_); rw [Tryz.results32] at hR; refine wg_run ?_; (simp only [Tryz.f32, go_sem])
  repeat' (first | (first | (simp only [go_sem, int_bne]) | (((first | refine sp1 ?_ ?_ | refine sp2 ?_ ?_ | refine sp3 ?_ ?_ | refine sp4 ?_ ?_ | refine sp5 ?_ ?_ | refine sp6 ?_ ?_ | refine sp7 ?_ ?_) <;> intro hb) <;> (simp only [go_sem, hb, int_bne])) | ((first | refine wm_done ?_ | refine wt_done ?_ | refine wg_run ?_ | refine fk ?_ ?_) <;> (simp only [go_sem, int_bne]))) | (first | (refine wl_next (wg_run ?_); (simp only [go_sem])) | refine wd_rounds 6 ?_) | (first | refine cd (hc := hg t) (hK := ?_) | refine cm (hc := hg t) (hK := ?_) | refine ct (hc := hg t) (hK := ?_)); (simp only [go_sem]) | (first | refine cd (hc := hs) (hK := ?_) | refine cm (hc := hs) (hK := ?_) | refine ct (hc := hs) (hK := ?_)); (simp only [go_sem]) | fail)
  all_goals (refine hR _ ?_; refine rat [] (hK := ⟨rfl, rfl⟩))
theorem iEvaluate (g : FuncId) (hg : ∀ t : Tm, AFn Tryz.prog g [.agg (teC t)] (.tup [])) (e : E) (h : e.okC = true) (f : Nat) (hf : f ≤ 300) : AFn Tryz.prog 32 [.agg (teC e.tm), .one (.sc (.int .i64 (f : Nat))), .one (.fn g [])] (evT (e.evI f 0)) := by
  refine fn_in ?_; refine acl_in Tryz.func32 rfl isfn_32 (Nat.le_of_ble_eq_true rfl) (fun R hR => ?_); rw [Tryz.results32] at hR; refine wg_run ?_; (simp only [Tryz.f32, go_sem])
  repeat' (first | (first | (((first | refine sp1 ?_ ?_ | refine sp2 ?_ ?_ | refine sp3 ?_ ?_ | refine sp4 ?_ ?_ | refine sp5 ?_ ?_ | refine sp6 ?_ ?_ | refine sp7 ?_ ?_) <;> intro hb) <;> (simp only [go_sem, hb])) | ((first | refine wm_done ?_ | refine wt_done ?_ | refine wg_run ?_ | refine fk ?_ ?_) <;> (simp only [go_sem]))) | (first | refine cd (hc := hg _) (hK := ?_) | refine cm (hc := hg _) (hK := ?_) | refine ct (hc := hg _) (hK := ?_)); (simp only [go_sem]) | fail)
  refine wd_for [1, 2, 3, 6, 7, 8, 9, 10] (fun (s : Nat × E) => [.one (.sc (.int .i64 (f : Nat))), .one (.fn g []), .one (.ptr 9 0 0 0), .one (.ptr 9 1 0 0), .one (.sc (.int .i64 0)), .one (.sc (.int .i64 0)), .one (.sc (.int .i64 0)), .one (.sc (.int .i64 (s.1 : Nat)))])
    (fun s => [⟨9, 28, .mut, [teC s.2.tm]⟩, ⟨9, 28, .mut, [[.sc (.int .i64 0), .sc (.string { data := { toList := [] } }), .sc (.int .i64 0), .sc (.int .i64 0), .sc (.slice none 0 0), .sc (.int .i64 0), .sc (.slice none 0 0), .sc (.int .i64 0), .sc (.slice none 0 0)]]⟩])
    (fun s => s.1 ≤ f ∧ s.2.okC = true ∧ s.2.evI (f - s.1) s.1 = e.evI f 0) (fun s => f - s.1) (0, e) ⟨Nat.zero_le _, h, rfl⟩ (hat [0, 1] (hI := ⟨rfl, rfl⟩)) ?_
  rintro ⟨k, x⟩ ⟨hk, hx, hev⟩ G hG
  simp only [] at hk hx hev
  have hs := iStepCast x hx
  refine wg_run ?_
  cases hsc : x.sc with
  | took y =>
    rw [hsc] at hs
    simp only [scT, SC.tm, SC.code, SC.lab] at hs
    by_cases hkf : k = f
    · have hke : (((k : Nat) : Int) == (f : Int)) = true := by simp [hkf]
      have hz0 : f - k = 0 := by omega
      rw [hz0] at hev
      simp only [E.evI, hsc] at hev
      (simp only [go_sem, hke])
      repeat' (first | (first | (simp only [go_sem, int_bne, hke]) | (((first | refine sp1 ?_ ?_ | refine sp2 ?_ ?_ | refine sp3 ?_ ?_ | refine sp4 ?_ ?_ | refine sp5 ?_ ?_ | refine sp6 ?_ ?_ | refine sp7 ?_ ?_) <;> intro hb) <;> (simp only [go_sem, hb, int_bne, hke])) | ((first | refine wm_done ?_ | refine wt_done ?_ | refine wg_run ?_ | refine fk ?_ ?_) <;> (simp only [go_sem, int_bne, hke]))) | (first | refine cd (hc := hs) (hK := ?_) | refine cm (hc := hs) (hK := ?_) | refine ct (hc := hs) (hK := ?_)); (simp only [go_sem]) | fail)
      rw [← hev] at hR
      all_goals (refine hR _ ?_; refine rat [] (hK := ⟨rfl, rfl⟩))
    · have hke : (((k : Nat) : Int) == (f : Int)) = false := by simp; omega
      have hw1 := wrap_succ (k := k) (n := f) (by omega) (by omega)
      obtain ⟨m, hm⟩ : ∃ m, f - k = m + 1 := ⟨f - k - 1, by omega⟩
      rw [hm, E.evI_took hsc] at hev
      have hm2 : f - (k + 1) = m := by omega
      (simp only [go_sem, hke])
      repeat' (first | (first | (simp only [go_sem, int_bne, hke, hw1]) | (((first | refine sp1 ?_ ?_ | refine sp2 ?_ ?_ | refine sp3 ?_ ?_ | refine sp4 ?_ ?_ | refine sp5 ?_ ?_ | refine sp6 ?_ ?_ | refine sp7 ?_ ?_) <;> intro hb) <;> (simp only [go_sem, hb, int_bne, hke, hw1])) | ((first | refine wm_done ?_ | refine wt_done ?_ | refine wg_run ?_ | refine fk ?_ ?_) <;> (simp only [go_sem, int_bne, hke, hw1]))) | (first | refine cd (hc := hs) (hK := ?_) | refine cm (hc := hs) (hK := ?_) | refine ct (hc := hs) (hK := ?_)); (simp only [go_sem]) | (first | refine cd (hc := hg y.tm) (hK := ?_) | refine cm (hc := hg y.tm) (hK := ?_) | refine ct (hc := hg y.tm) (hK := ?_)); (simp only [go_sem]) | fail)
      exact hG (k + 1, y) _ _ ⟨by show k + 1 ≤ f; omega, E.sc_ok hsc, by show y.evI (f - (k + 1)) (k + 1) = _; rw [hm2]; exact hev⟩ (by show f - (k + 1) < f - k; omega) (hat [0, 1] (hI := ⟨rfl, rfl⟩))
  | _ =>
    rw [E.evI_stop (fun y => by rw [hsc]; simp), hsc] at hev
    rw [← hev] at hR
    rw [hsc] at hs
    simp only [scT, SC.tm, SC.code, SC.lab] at hs
    (try simp only [tm0, noTy] at hs)
    (simp only [go_sem])
    repeat' (first | (first | (simp only [go_sem, int_bne]) | (((first | refine sp1 ?_ ?_ | refine sp2 ?_ ?_ | refine sp3 ?_ ?_ | refine sp4 ?_ ?_ | refine sp5 ?_ ?_ | refine sp6 ?_ ?_ | refine sp7 ?_ ?_) <;> intro hb) <;> (simp only [go_sem, hb, int_bne])) | ((first | refine wm_done ?_ | refine wt_done ?_ | refine wg_run ?_ | refine fk ?_ ?_) <;> (simp only [go_sem, int_bne]))) | (first | refine cd (hc := hs) (hK := ?_) | refine cm (hc := hs) (hK := ?_) | refine ct (hc := hs) (hK := ?_)); (simp only [go_sem]) | fail)
    all_goals (refine hR _ ?_; refine rat [] (hK := ⟨rfl, rfl⟩))
theorem sEvalBad (t : Tm) (h : t.castV = false) (hz : t.size < 4611686018427387904) (f : Int) : AFn Tryz.prog 43 [.agg (teC t), .one (.sc (.int .i64 f))] evBad := by
  have hs := sStepBad t h hz
  unfold evBad
  simp only [badT, tm0, noTy] at hs ⊢
  refine fn_in ?_; refine acl_in Tryz.func43 rfl isfn_43 (Nat.le_of_ble_eq_true rfl) (fun R hR => ?_); rw [Tryz.results43] at hR; refine wg_run ?_; (simp only [Tryz.f43, go_sem])
  repeat' (first | (first | (simp only [go_sem, int_bne]) | (((first | refine sp1 ?_ ?_ | refine sp2 ?_ ?_ | refine sp3 ?_ ?_ | refine sp4 ?_ ?_ | refine sp5 ?_ ?_ | refine sp6 ?_ ?_ | refine sp7 ?_ ?_) <;> intro hb) <;> (simp only [go_sem, hb, int_bne])) | ((first | refine wm_done ?_ | refine wt_done ?_ | refine wg_run ?_ | refine fk ?_ ?_) <;> (simp only [go_sem, int_bne]))) | (first | (refine wl_next (wg_run ?_); (simp only [go_sem])) | refine wd_rounds 6 ?_) | (first | refine cd (hc := hs) (hK := ?_) | refine cm (hc := hs) (hK := ?_) | refine ct (hc := hs) (hK := ?_)); (simp only [go_sem]) | fail)
  all_goals (refine hR _ ?_; refine rat [] (hK := ⟨rfl, rfl⟩))
theorem sEval (e : E) (h : e.okC = true) (f : Nat) (hf : f ≤ 300) : AFn Tryz.prog 43 [.agg (teC e.tm), .one (.sc (.int .i64 (f : Nat)))] (evS (e.evI f 0)) := by
  refine fn_in ?_; refine acl_in Tryz.func43 rfl isfn_43 (Nat.le_of_ble_eq_true rfl) (fun R hR => ?_); rw [Tryz.results43] at hR; refine wg_run ?_; (simp only [Tryz.f43, go_sem])
  repeat' (first | (first | (((first | refine sp1 ?_ ?_ | refine sp2 ?_ ?_ | refine sp3 ?_ ?_ | refine sp4 ?_ ?_ | refine sp5 ?_ ?_ | refine sp6 ?_ ?_ | refine sp7 ?_ ?_) <;> intro hb) <;> (simp only [go_sem, hb])) | ((first | refine wm_done ?_ | refine wt_done ?_ | refine wg_run ?_ | refine fk ?_ ?_) <;> (simp only [go_sem]))) | fail)
  refine wd_for [1, 2, 4, 5, 6, 7, 8] (fun (s : Nat × E) => [.one (.sc (.int .i64 (f : Nat))), .one (.ptr 9 0 0 0), .one (.ptr 9 1 0 0), .one (.sc (.int .i64 0)), .one (.sc (.int .i64 0)), .one (.sc (.int .i64 0)), .one (.sc (.int .i64 (s.1 : Nat)))])
    (fun s => [⟨9, 28, .mut, [teC s.2.tm]⟩, ⟨9, 28, .mut, [[.sc (.int .i64 0), .sc (.string { data := { toList := [] } }), .sc (.int .i64 0), .sc (.int .i64 0), .sc (.slice none 0 0), .sc (.int .i64 0), .sc (.slice none 0 0), .sc (.int .i64 0), .sc (.slice none 0 0)]]⟩])
    (fun s => s.1 ≤ f ∧ s.2.okC = true ∧ s.2.evI (f - s.1) s.1 = e.evI f 0) (fun s => f - s.1) (0, e) ⟨Nat.zero_le _, h, rfl⟩ (hat [0, 1] (hI := ⟨rfl, rfl⟩)) ?_
  rintro ⟨k, x⟩ ⟨hk, hx, hev⟩ G hG
  simp only [] at hk hx hev
  have hs := sStepCast x hx
  refine wg_run ?_
  cases hsc : x.sc with
  | took y =>
    rw [hsc] at hs
    simp only [scT, SC.tm, SC.code, SC.lab] at hs
    by_cases hkf : k = f
    · have hke : (((k : Nat) : Int) == (f : Int)) = true := by simp [hkf]
      have hz0 : f - k = 0 := by omega
      rw [hz0] at hev
      simp only [E.evI, hsc] at hev
      (simp only [go_sem, hke])
      repeat' (first | (first | (simp only [go_sem, int_bne, hke]) | (((first | refine sp1 ?_ ?_ | refine sp2 ?_ ?_ | refine sp3 ?_ ?_ | refine sp4 ?_ ?_ | refine sp5 ?_ ?_ | refine sp6 ?_ ?_ | refine sp7 ?_ ?_) <;> intro hb) <;> (simp only [go_sem, hb, int_bne, hke])) | ((first | refine wm_done ?_ | refine wt_done ?_ | refine wg_run ?_ | refine fk ?_ ?_) <;> (simp only [go_sem, int_bne, hke]))) | (first | refine cd (hc := hs) (hK := ?_) | refine cm (hc := hs) (hK := ?_) | refine ct (hc := hs) (hK := ?_)); (simp only [go_sem]) | fail)
      rw [← hev] at hR
      all_goals (refine hR _ ?_; refine rat [] (hK := ⟨rfl, rfl⟩))
    · have hke : (((k : Nat) : Int) == (f : Int)) = false := by simp; omega
      have hw1 := wrap_succ (k := k) (n := f) (by omega) (by omega)
      obtain ⟨m, hm⟩ : ∃ m, f - k = m + 1 := ⟨f - k - 1, by omega⟩
      rw [hm, E.evI_took hsc] at hev
      have hm2 : f - (k + 1) = m := by omega
      (simp only [go_sem, hke])
      repeat' (first | (first | (simp only [go_sem, int_bne, hke, hw1]) | (((first | refine sp1 ?_ ?_ | refine sp2 ?_ ?_ | refine sp3 ?_ ?_ | refine sp4 ?_ ?_ | refine sp5 ?_ ?_ | refine sp6 ?_ ?_ | refine sp7 ?_ ?_) <;> intro hb) <;> (simp only [go_sem, hb, int_bne, hke, hw1])) | ((first | refine wm_done ?_ | refine wt_done ?_ | refine wg_run ?_ | refine fk ?_ ?_) <;> (simp only [go_sem, int_bne, hke, hw1]))) | (first | refine cd (hc := hs) (hK := ?_) | refine cm (hc := hs) (hK := ?_) | refine ct (hc := hs) (hK := ?_)); (simp only [go_sem]) | fail)
      exact hG (k + 1, y) _ _ ⟨by show k + 1 ≤ f; omega, E.sc_ok hsc, by show y.evI (f - (k + 1)) (k + 1) = _; rw [hm2]; exact hev⟩ (by show f - (k + 1) < f - k; omega) (hat [0, 1] (hI := ⟨rfl, rfl⟩))
  | _ =>
    rw [E.evI_stop (fun y => by rw [hsc]; simp), hsc] at hev
    rw [← hev] at hR
    rw [hsc] at hs
    simp only [scT, SC.tm, SC.code, SC.lab] at hs
    (try simp only [tm0, noTy] at hs)
    (simp only [go_sem])
    repeat' (first | (first | (simp only [go_sem, int_bne]) | (((first | refine sp1 ?_ ?_ | refine sp2 ?_ ?_ | refine sp3 ?_ ?_ | refine sp4 ?_ ?_ | refine sp5 ?_ ?_ | refine sp6 ?_ ?_ | refine sp7 ?_ ?_) <;> intro hb) <;> (simp only [go_sem, hb, int_bne])) | ((first | refine wm_done ?_ | refine wt_done ?_ | refine wg_run ?_ | refine fk ?_ ?_) <;> (simp only [go_sem, int_bne]))) | (first | refine cd (hc := hs) (hK := ?_) | refine cm (hc := hs) (hK := ?_) | refine ct (hc := hs) (hK := ?_)); (simp only [go_sem]) | fail)
    all_goals (refine hR _ ?_; refine rat [] (hK := ⟨rfl, rfl⟩))
theorem iIsFuel (f : Int) : AFn Tryz.prog 31 [.one (.sc (.int .i64 f))] (.one (.sc (.bool (decide (0 ≤ f) && decide (f ≤ 300))))) := by
  have h := within f 0 300
  refine fn_in ?_; refine acl_in Tryz.func31 rfl isfn_31 (Nat.le_of_ble_eq_true rfl) (fun R hR => ?_); rw [Tryz.results31] at hR; refine wg_run ?_; (simp only [Tryz.f31, go_sem])
  repeat' (first | (first | (((first | refine sp1 ?_ ?_ | refine sp2 ?_ ?_ | refine sp3 ?_ ?_ | refine sp4 ?_ ?_ | refine sp5 ?_ ?_ | refine sp6 ?_ ?_ | refine sp7 ?_ ?_) <;> intro hb) <;> (simp only [go_sem, hb])) | ((first | refine wm_done ?_ | refine wt_done ?_ | refine wg_run ?_ | refine fk ?_ ?_) <;> (simp only [go_sem]))) | (first | refine cd (hc := h) (hK := ?_) | refine cm (hc := h) (hK := ?_) | refine ct (hc := h) (hK := ?_)); (simp only [go_sem]) | fail)
  all_goals (refine hR _ ?_; refine rat [] (hK := ⟨rfl, rfl⟩))
end Go.Proofs.YtnaebafafhamjaaGreat
/- StepCast and EvalCast at terms as they come. No program, no world. -/
namespace Go.Proofs.Grad
noncomputable def Tm.stepV (t : Tm) : SC := by
  classical
  exact if h : t.castV = true then (Classical.choose (Tm.castV_E h)).sc else .stuck
theorem Tm.stepV_E {e : E} (h : e.okC = true) : e.tm.stepV = e.sc := by
  have h' : e.tm.castV = true := by rw [E.castV_tm]; exact h
  unfold Tm.stepV
  rw [dif_pos h', E.tm_inj _ _ (Classical.choose_spec (Tm.castV_E h')).1]
theorem Tm.stepV_bad {t : Tm} (h : t.castV = false) : t.stepV = .stuck := by unfold Tm.stepV; rw [dif_neg (by simp [h])]
noncomputable def Tm.evalV (t : Tm) (f : Int) : SC := by
  classical
  exact if h : t.castV = true then (match decide (0 ≤ f) && decide (f ≤ 300) with | true => ((Classical.choose (Tm.castV_E h)).evI f.toNat 0).1 | false => .stuck) else .stuck
theorem Tm.evalV_E {e : E} (h : e.okC = true) (f : Nat) (hf : f ≤ 300) : e.tm.evalV f = (e.evI f 0).1 := by
  have h' : e.tm.castV = true := by rw [E.castV_tm]; exact h
  unfold Tm.evalV
  rw [dif_pos h', E.tm_inj _ _ (Classical.choose_spec (Tm.castV_E h')).1]
  have : (decide ((0 : Int) ≤ (f : Int)) && decide ((f : Int) ≤ 300)) = true := by simp; omega
  rw [this]
  rfl
theorem Tm.evalV_bad {t : Tm} (h : t.castV = false) (f : Int) : t.evalV f = .stuck := by unfold Tm.evalV; rw [dif_neg (by simp [h])]
theorem Tm.evalV_off (t : Tm) {f : Int} (h : (decide (0 ≤ f) && decide (f ≤ 300)) = false) : t.evalV f = .stuck := by
  unfold Tm.evalV; split
  · rw [h]
  · rfl
end Go.Proofs.Grad
/- StepCast and EvalCast at terms as they come, in the program and in the reference. On shadows. -/
namespace Go.Proofs.YtnaebafafhamjaaGreat
open Go.RowKit Go.Proofs.Sh Go.Proofs.Grad
set_option maxRecDepth 100000
set_option maxHeartbeats 8000000
def ecT (r : SC) : AV := .tup [.agg (teC r.etm), .one (.sc (.int .i64 r.ecode)), .one (.sc (.int .i64 r.lab))]
theorem iStepV (t : Tm) : AFn Tryz.prog 73 [.agg (teC t)] (scT t.stepV) := by
  cases hc : t.castV
  · rw [Tm.stepV_bad hc]; exact iStepBad t hc
  · obtain ⟨e, rfl, ho⟩ := Tm.castV_E hc
    rw [Tm.stepV_E ho]; exact iStepCast e ho
theorem sStepV (t : Tm) (hz : t.size < 4611686018427387904) : AFn Tryz.prog 37 [.agg (teC t)] (scT t.stepV) := by
  cases hc : t.castV
  · rw [Tm.stepV_bad hc]; exact sStepBad t hc hz
  · obtain ⟨e, rfl, ho⟩ := Tm.castV_E hc
    rw [Tm.stepV_E ho]; exact sStepCast e ho
theorem iReach2 (t : Tm) : AFn Tryz.prog 46 [.agg (teC t)] (.tup []) := by
  refine fn_in ?_; refine acl_in Tryz.func46 rfl isfn_46 (Nat.le_of_ble_eq_true rfl) (fun R hR => ?_); rw [Tryz.results46] at hR; refine wg_run ?_; (simp only [Tryz.f46, go_sem])
  repeat' (first | (first | (((first | refine sp1 ?_ ?_ | refine sp2 ?_ ?_ | refine sp3 ?_ ?_ | refine sp4 ?_ ?_ | refine sp5 ?_ ?_ | refine sp6 ?_ ?_ | refine sp7 ?_ ?_) <;> intro hb) <;> (simp only [go_sem, hb])) | ((first | refine wm_done ?_ | refine wt_done ?_ | refine wg_run ?_ | refine fk ?_ ?_) <;> (simp only [go_sem]))) | fail)
  (refine hR _ ?_; refine rat [] (hK := ⟨rfl, rfl⟩))
theorem iEvalV (t : Tm) (f : Int) : AFn Tryz.prog 14 [.agg (teC t), .one (.sc (.int .i64 f))] (ecT (t.evalV f)) := by
  have hf := iIsFuel f
  cases hb : (decide (0 ≤ f) && decide (f ≤ 300))
  · rw [hb] at hf
    rw [Tm.evalV_off t hb]
    simp only [ecT, SC.etm, SC.ecode, SC.tm, SC.code, SC.lab]
    simp only [tm0, noTy]
    refine fn_in ?_; refine acl_in Tryz.func14 rfl isfn_14 (Nat.le_of_ble_eq_true rfl) (fun R hR => ?_); rw [Tryz.results14] at hR; refine wg_run ?_; (simp only [Tryz.f14, go_sem])
    repeat' (first | (first | (((first | refine sp1 ?_ ?_ | refine sp2 ?_ ?_ | refine sp3 ?_ ?_ | refine sp4 ?_ ?_ | refine sp5 ?_ ?_ | refine sp6 ?_ ?_ | refine sp7 ?_ ?_) <;> intro hb) <;> (simp only [go_sem, hb])) | ((first | refine wm_done ?_ | refine wt_done ?_ | refine wg_run ?_ | refine fk ?_ ?_) <;> (simp only [go_sem]))) | (first | refine cd (hc := hf) (hK := ?_) | refine cm (hc := hf) (hK := ?_) | refine ct (hc := hf) (hK := ?_)); (simp only [go_sem]) | fail)
    (refine hR _ ?_; refine rat [] (hK := ⟨rfl, rfl⟩))
  · rw [hb] at hf
    simp only [Bool.and_eq_true, decide_eq_true_eq] at hb
    cases hc : t.castV
    · have he := iEvalBad 46 iReach2 t hc f
      rw [Tm.evalV_bad hc]
      simp only [evBad] at he
      simp only [ecT, SC.etm, SC.ecode, SC.tm, SC.code, SC.lab]
      refine fn_in ?_; refine acl_in Tryz.func14 rfl isfn_14 (Nat.le_of_ble_eq_true rfl) (fun R hR => ?_); rw [Tryz.results14] at hR; refine wg_run ?_; (simp only [Tryz.f14, go_sem])
      repeat' (first | (first | (((first | refine sp1 ?_ ?_ | refine sp2 ?_ ?_ | refine sp3 ?_ ?_ | refine sp4 ?_ ?_ | refine sp5 ?_ ?_ | refine sp6 ?_ ?_ | refine sp7 ?_ ?_) <;> intro hb) <;> (simp only [go_sem, hb])) | ((first | refine wm_done ?_ | refine wt_done ?_ | refine wg_run ?_ | refine fk ?_ ?_) <;> (simp only [go_sem]))) | (first | refine cd (hc := hf) (hK := ?_) | refine cm (hc := hf) (hK := ?_) | refine ct (hc := hf) (hK := ?_)); (simp only [go_sem]) | (first | refine cd (hc := he) (hK := ?_) | refine cm (hc := he) (hK := ?_) | refine ct (hc := he) (hK := ?_)); (simp only [go_sem]) | fail)
      (refine hR _ ?_; refine rat [] (hK := ⟨rfl, rfl⟩))
    · obtain ⟨e, rfl, ho⟩ := Tm.castV_E hc
      obtain ⟨n, rfl⟩ := Int.eq_ofNat_of_zero_le hb.1
      have he := iEvaluate 46 iReach2 e ho n (by omega)
      rw [Tm.evalV_E ho n (by omega)]
      generalize e.evI n 0 = r at he
      obtain ⟨r, m⟩ := r
      simp only [evT] at he
      cases r
      all_goals
        simp only [SC.tm, SC.code, SC.lab] at he
        simp only [ecT, SC.etm, SC.ecode, SC.tm, SC.code, SC.lab]
        (try simp only [tm0, noTy] at he ⊢)
        refine fn_in ?_; refine acl_in Tryz.func14 rfl isfn_14 (Nat.le_of_ble_eq_true rfl) (fun R hR => ?_); rw [Tryz.results14] at hR; refine wg_run ?_; (simp only [Tryz.f14, go_sem])
        repeat' (first | (first | (((first | refine sp1 ?_ ?_ | refine sp2 ?_ ?_ | refine sp3 ?_ ?_ | refine sp4 ?_ ?_ | refine sp5 ?_ ?_ | refine sp6 ?_ ?_ | refine sp7 ?_ ?_) <;> intro hb) <;> (simp only [go_sem, hb])) | ((first | refine wm_done ?_ | refine wt_done ?_ | refine wg_run ?_ | refine fk ?_ ?_) <;> (simp only [go_sem]))) | (first | refine cd (hc := hf) (hK := ?_) | refine cm (hc := hf) (hK := ?_) | refine ct (hc := hf) (hK := ?_)); (simp only [go_sem]) | (first | refine cd (hc := he) (hK := ?_) | refine cm (hc := he) (hK := ?_) | refine ct (hc := he) (hK := ?_)); (simp only [go_sem]) | fail)
        (refine hR _ ?_; refine rat [] (hK := ⟨rfl, rfl⟩))
theorem sEvalV (t : Tm) (hz : t.size < 4611686018427387904) (f : Int) : AFn Tryz.prog 12 [.agg (teC t), .one (.sc (.int .i64 f))] (ecT (t.evalV f)) := by
  cases hb : (decide (0 ≤ f) && decide (f ≤ 300))
  · rw [Tm.evalV_off t hb]
    simp only [ecT, SC.etm, SC.ecode, SC.tm, SC.code, SC.lab]
    simp only [tm0, noTy]
    by_cases h0 : f < 0
    · have d0 : decide (f < 0) = true := by simpa using h0
      refine fn_in ?_; refine acl_in Tryz.func12 rfl isfn_12 (Nat.le_of_ble_eq_true rfl) (fun R hR => ?_); rw [Tryz.results12] at hR; refine wg_run ?_; (simp only [Tryz.f12, go_sem, d0])
      repeat' (first | (first | (simp only [go_sem, d0]) | (((first | refine sp1 ?_ ?_ | refine sp2 ?_ ?_ | refine sp3 ?_ ?_ | refine sp4 ?_ ?_ | refine sp5 ?_ ?_ | refine sp6 ?_ ?_ | refine sp7 ?_ ?_) <;> intro hb) <;> (simp only [go_sem, hb, d0])) | ((first | refine wm_done ?_ | refine wt_done ?_ | refine wg_run ?_ | refine fk ?_ ?_) <;> (simp only [go_sem, d0]))) | fail)
      (refine hR _ ?_; refine rat [] (hK := ⟨rfl, rfl⟩))
    · have d0 : decide (f < 0) = false := by simpa using h0
      have d1 : decide (f > 300) = true := by simp at hb; simp; omega
      refine fn_in ?_; refine acl_in Tryz.func12 rfl isfn_12 (Nat.le_of_ble_eq_true rfl) (fun R hR => ?_); rw [Tryz.results12] at hR; refine wg_run ?_; (simp only [Tryz.f12, go_sem, d0, d1])
      repeat' (first | (first | (simp only [go_sem, d0, d1]) | (((first | refine sp1 ?_ ?_ | refine sp2 ?_ ?_ | refine sp3 ?_ ?_ | refine sp4 ?_ ?_ | refine sp5 ?_ ?_ | refine sp6 ?_ ?_ | refine sp7 ?_ ?_) <;> intro hb) <;> (simp only [go_sem, hb, d0, d1])) | ((first | refine wm_done ?_ | refine wt_done ?_ | refine wg_run ?_ | refine fk ?_ ?_) <;> (simp only [go_sem, d0, d1]))) | fail)
      (refine hR _ ?_; refine rat [] (hK := ⟨rfl, rfl⟩))
  · simp only [Bool.and_eq_true, decide_eq_true_eq] at hb
    have d0 : decide (f < 0) = false := by simp; omega
    have d1 : decide (f > 300) = false := by simp; omega
    cases hc : t.castV
    · have he := sEvalBad t hc hz f
      rw [Tm.evalV_bad hc]
      simp only [evBad] at he
      simp only [ecT, SC.etm, SC.ecode, SC.tm, SC.code, SC.lab]
      refine fn_in ?_; refine acl_in Tryz.func12 rfl isfn_12 (Nat.le_of_ble_eq_true rfl) (fun R hR => ?_); rw [Tryz.results12] at hR; refine wg_run ?_; (simp only [Tryz.f12, go_sem, d0, d1])
      repeat' (first | (first | (simp only [go_sem, d0, d1]) | (((first | refine sp1 ?_ ?_ | refine sp2 ?_ ?_ | refine sp3 ?_ ?_ | refine sp4 ?_ ?_ | refine sp5 ?_ ?_ | refine sp6 ?_ ?_ | refine sp7 ?_ ?_) <;> intro hb) <;> (simp only [go_sem, hb, d0, d1])) | ((first | refine wm_done ?_ | refine wt_done ?_ | refine wg_run ?_ | refine fk ?_ ?_) <;> (simp only [go_sem, d0, d1]))) | (first | refine cd (hc := he) (hK := ?_) | refine cm (hc := he) (hK := ?_) | refine ct (hc := he) (hK := ?_)); (simp only [go_sem]) | fail)
      (refine hR _ ?_; refine rat [] (hK := ⟨rfl, rfl⟩))
    · obtain ⟨e, rfl, ho⟩ := Tm.castV_E hc
      obtain ⟨n, rfl⟩ := Int.eq_ofNat_of_zero_le hb.1
      have he := sEval e ho n (by omega)
      rw [Tm.evalV_E ho n (by omega)]
      generalize e.evI n 0 = r at he
      obtain ⟨r, m⟩ := r
      simp only [evS] at he
      simp only [ecT]
      refine fn_in ?_; refine acl_in Tryz.func12 rfl isfn_12 (Nat.le_of_ble_eq_true rfl) (fun R hR => ?_); rw [Tryz.results12] at hR; refine wg_run ?_; (simp only [Tryz.f12, go_sem, d0, d1])
      repeat' (first | (first | (simp only [go_sem, d0, d1]) | (((first | refine sp1 ?_ ?_ | refine sp2 ?_ ?_ | refine sp3 ?_ ?_ | refine sp4 ?_ ?_ | refine sp5 ?_ ?_ | refine sp6 ?_ ?_ | refine sp7 ?_ ?_) <;> intro hb) <;> (simp only [go_sem, hb, d0, d1])) | ((first | refine wm_done ?_ | refine wt_done ?_ | refine wg_run ?_ | refine fk ?_ ?_) <;> (simp only [go_sem, d0, d1]))) | (first | refine cd (hc := he) (hK := ?_) | refine cm (hc := he) (hK := ?_) | refine ct (hc := he) (hK := ?_)); (simp only [go_sem]) | fail)
      (refine hR _ ?_; refine rat [] (hK := ⟨rfl, rfl⟩))
end Go.Proofs.YtnaebafafhamjaaGreat
/- Owned trees: rows changed where they lie. -/
namespace Go.Proofs.Sh
def dgs (k : Nat) (out : ByteArray) : ByteArray := if h : k = 0 then out else dgs (k / 10) (bytesOf [((48 + k % 10 : Nat) : Int)] ++ out)
termination_by k
decreasing_by omega
theorem dgs_zero (out : ByteArray) : dgs 0 out = out := by rw [dgs]; simp
theorem dgs_pos {k : Nat} (h : 0 < k) (out : ByteArray) : dgs k out = dgs (k / 10) (bytesOf [((48 + k % 10 : Nat) : Int)] ++ out) := by
  rw [dgs, dif_neg (by omega)]
def mkT (k : Nat) : ByteArray := ⟨#[109]⟩ ++ dgs k ByteArray.empty
end Go.Proofs.Sh
namespace Go.Proofs.Sh
open Go.RowKit Go.Proofs.Grad

/-- a row of an owned slice, and what is so when it has been changed -/
theorem row_upd {h : List Blk} {d s b n i : Nat} {R : List (List C)} {js : List Nat} (h0 : ow h (d + 1) (.row s b n) = some (.sl R, b :: js)) (hn : (b :: js).Nodup) (hi : i < R.length) :
    ∃ ty rows r E pre is post, h[b]? = some ⟨s, ty, .mut, rows⟩ ∧ rows.length = n ∧ R.length = n ∧ rows[i]? = some r ∧ R[i]? = some E ∧ r.length = s ∧ fzL (ow h d) r = some (E, is) ∧ js = pre ++ (is ++ post) ∧ is.Nodup ∧ b ∉ is ∧ (∀ x ∈ pre ++ post, x ∉ is ∧ x ≠ b) ∧
      (∀ h2 r' E', r'.length = s → h2[b]? = some ⟨s, ty, .mut, rows.set i r'⟩ → fzL (ow h2 d) r' = some (E', is) → (∀ x ∈ pre ++ post, h2[x]? = h[x]?) → ow h2 (d + 1) (.row s b n) = some (.sl (R.set i E'), b :: js)) := by
  obtain ⟨d', k, R', js', e, h1, h2, h3, h4, h5, h6, h7, h8⟩ := ow_row h0
  cases e; cases h7; cases h8
  obtain ⟨ks, kty, kst, rows⟩ := k
  simp only at h2 h3 h4 h5 h6
  have hst : kst = .mut := by cases kst <;> simp [St.isMut] at h2 ⊢
  subst hst h4
  have hl := fzRows_len h6
  have hir : i < rows.length := by omega
  obtain ⟨E, pre, is, post, q1, q2, q3, q4, q5⟩ := fzRows_split h6 (List.getElem?_eq_getElem hir)
  obtain ⟨hb, hjs⟩ := List.nodup_cons.1 hn
  have hjs' := hjs
  rw [q3] at hjs' hb
  obtain ⟨a1, a2, a3⟩ := List.nodup_append.1 hjs'
  obtain ⟨a4, a5, a6⟩ := List.nodup_append.1 a2
  refine ⟨kty, rows, rows[i], E, pre, is, post, h1, h3, by omega, List.getElem?_eq_getElem hir, q1, rowsLen_spec h5 _ (List.getElem_mem hir), q2, q3, a4, fun hm => hb (by simp [hm]), fun x hx => ⟨fun hm => ?_, fun e => hb (by subst e; rcases List.mem_append.1 hx with hx | hx <;> simp [hx])⟩, fun h2' r' E' hr hb he hx => ?_⟩
  · rcases List.mem_append.1 hx with hx | hx
    · exact a3 x hx x (by simp [hm]) rfl
    · exact a6 x hm x hx rfl
  · refine ow_row_of hb rfl (by simp [h3]) rfl ?_ ?_
    · simp only [rowsLen, List.all_eq_true, beq_iff_eq]
      intro x hx
      rcases List.mem_or_eq_of_mem_set hx with hx | rfl
      · exact rowsLen_spec h5 x hx
      · exact hr
    · rw [q3]
      exact fzRows_set hir hl (owR_frame q4 (fun x hx' => hx x (by simp [hx']))) he (owR_frame q5 (fun x hx' => hx x (by simp [hx'])))
theorem owR_lt {h : List Blk} {d s b n : Nat} {c' : C} {js : List Nat} (h0 : ow h d (.row s b n) = some (c', b :: js)) (x : Nat) (hx : x ∈ js) : x < h.length := (ow_mut h0 x (by simp [hx])).lt
end Go.Proofs.Sh
namespace Go.Proofs.Grad
mutual
def Ty.mark : Ty → Nat → Ty
  | .mk _ l, k => .mk (k : Int) (Ty.marks l (k + 1))
def Ty.marks : List Ty → Nat → List Ty
  | [], _ => []
  | t :: l, k => t.mark k :: Ty.marks l (k + t.size)
end
theorem Ty.mark_eq (t : Ty) (k : Nat) : t.mark k = .mk (k : Int) (Ty.marks t.kids (k + 1)) := by cases t; rfl
theorem Ty.marks_append : ∀ (l m : List Ty) (k : Nat), Ty.marks (l ++ m) k = Ty.marks l k ++ Ty.marks m (k + Ty.sizes l)
  | [], m, k => by simp [Ty.marks, Ty.sizes]
  | t :: l, m, k => by simp only [List.cons_append, Ty.marks, Ty.sizes, Ty.marks_append l m, Nat.add_assoc]
theorem Ty.marks_length : ∀ (l : List Ty) (k : Nat), (Ty.marks l k).length = l.length
  | [], _ => rfl
  | t :: l, k => by simp [Ty.marks, Ty.marks_length l]
theorem Ty.sizes_append : ∀ (l m : List Ty), Ty.sizes (l ++ m) = Ty.sizes l + Ty.sizes m
  | [], m => by simp [Ty.sizes]
  | t :: l, m => by simp only [List.cons_append, Ty.sizes, Ty.sizes_append l m, Nat.add_assoc]
/-- a list of which the first i are marked -/
def Ty.part (l : List Ty) (k i : Nat) : List Ty := Ty.marks (l.take i) k ++ l.drop i
theorem Ty.part_length (l : List Ty) (k i : Nat) : (Ty.part l k i).length = l.length := by
  simp only [Ty.part, List.length_append, Ty.marks_length, List.length_take, List.length_drop]; omega
end Go.Proofs.Grad
namespace Go.Proofs.Sh
open Go.RowKit Go.Proofs.Grad
theorem Ty.part_get {l : List Ty} {k i : Nat} (h : i < l.length) : (Ty.part l k i)[i]? = some (kid l i) := by
  have hl : (Ty.marks (l.take i) k).length = i := by rw [Ty.marks_length, List.length_take]; omega
  rw [Ty.part, List.getElem?_append_right (by omega), hl, Nat.sub_self, drop_kid h]; rfl
theorem Ty.part_set {l : List Ty} {k i : Nat} (h : i < l.length) : (Ty.part l k i).set i ((kid l i).mark (k + Ty.sizes (l.take i))) = Ty.part l k (i + 1) := by
  have hl : (Ty.marks (l.take i) k).length = i := by rw [Ty.marks_length, List.length_take]; omega
  rw [Ty.part, List.set_append_right _ _ (by omega), hl, Nat.sub_self, drop_kid h, Ty.part, take_kid h, Ty.marks_append]
  simp [Ty.marks]
theorem Ty.sizes_take {l : List Ty} {i : Nat} (h : i < l.length) : Ty.sizes (l.take (i + 1)) = Ty.sizes (l.take i) + (kid l i).size := by
  rw [take_kid h, Ty.sizes_append]; simp [Ty.sizes]
theorem tyR_set (l : List Ty) (i : Nat) (t : Ty) : (tyR l).set i (tyC t) = tyR (l.set i t) := by
  induction l generalizing i with
  | nil => rfl
  | cons x l ih => cases i <;> simp [tyR, ih]
theorem Ty.sizes_take_le (l : List Ty) (i : Nat) : Ty.sizes (l.take i) ≤ Ty.sizes l := by
  have := Ty.sizes_append (l.take i) (l.drop i)
  rw [List.take_append_drop] at this; omega
end Go.Proofs.Sh
namespace Go.Proofs.Grad
open Go.Proofs.Sh
theorem Ty.marks_nodes : ∀ (l : List Ty) (k : Nat), Ty.sizes (Ty.marks l k) = Ty.sizes l
  | [], _ => rfl
  | .mk _ a :: l, k => by simp only [Ty.marks, Ty.mark, Ty.sizes, Ty.size, Ty.marks_nodes a, Ty.marks_nodes l]
mutual
/-- how many marks a term takes -/
def Tm.mw : Tm → Nat
  | .mk _ _ _ t f _ l => 6 + (Ty.sizes t.kids + (Ty.sizes f.kids + Tm.mws l))
def Tm.mws : List Tm → Nat
  | [] => 0
  | t :: l => t.mw + Tm.mws l
end
mutual
def Tm.mark : Tm → Nat → Tm
  | .mk _ _ _ t f _ l, k => .mk (k : Int) (mkT (k + 1)) ((k + 2 : Nat) : Int) (.mk ((k + 3 : Nat) : Int) (Ty.marks t.kids (k + 4))) (.mk ((k + 4 + Ty.sizes t.kids : Nat) : Int) (Ty.marks f.kids (k + 4 + Ty.sizes t.kids + 1)))
      ((k + 4 + Ty.sizes t.kids + 1 + Ty.sizes f.kids : Nat) : Int) (Tm.marks l (k + 4 + Ty.sizes t.kids + 1 + Ty.sizes f.kids + 1))
def Tm.marks : List Tm → Nat → List Tm
  | [], _ => []
  | t :: l, k => t.mark k :: Tm.marks l (k + t.mw)
end
theorem Tm.mark_eq (t : Tm) (k : Nat) : t.mark k = .mk (k : Int) (mkT (k + 1)) ((k + 2 : Nat) : Int) (.mk ((k + 3 : Nat) : Int) (Ty.marks t.type.kids (k + 4))) (.mk ((k + 4 + Ty.sizes t.type.kids : Nat) : Int) (Ty.marks t.frm.kids (k + 4 + Ty.sizes t.type.kids + 1)))
      ((k + 4 + Ty.sizes t.type.kids + 1 + Ty.sizes t.frm.kids : Nat) : Int) (Tm.marks t.kids (k + 4 + Ty.sizes t.type.kids + 1 + Ty.sizes t.frm.kids + 1)) := by cases t; rfl
theorem Tm.mw_eq (t : Tm) : t.mw = 6 + (Ty.sizes t.type.kids + (Ty.sizes t.frm.kids + Tm.mws t.kids)) := by cases t; rfl
theorem Tm.marks_append : ∀ (l m : List Tm) (k : Nat), Tm.marks (l ++ m) k = Tm.marks l k ++ Tm.marks m (k + Tm.mws l)
  | [], m, k => by simp [Tm.marks, Tm.mws]
  | t :: l, m, k => by simp only [List.cons_append, Tm.marks, Tm.mws, Tm.marks_append l m, Nat.add_assoc]
theorem Tm.marks_length : ∀ (l : List Tm) (k : Nat), (Tm.marks l k).length = l.length
  | [], _ => rfl
  | t :: l, k => by simp [Tm.marks, Tm.marks_length l]
theorem Tm.mws_append : ∀ (l m : List Tm), Tm.mws (l ++ m) = Tm.mws l + Tm.mws m
  | [], m => by simp [Tm.mws]
  | t :: l, m => by simp only [List.cons_append, Tm.mws, Tm.mws_append l m, Nat.add_assoc]
def Tm.part (l : List Tm) (k i : Nat) : List Tm := Tm.marks (l.take i) k ++ l.drop i
theorem Tm.part_length (l : List Tm) (k i : Nat) : (Tm.part l k i).length = l.length := by
  simp only [Tm.part, List.length_append, Tm.marks_length, List.length_take, List.length_drop]; omega
theorem Tm.part_get {l : List Tm} {k i : Nat} (h : i < l.length) : (Tm.part l k i)[i]? = some (teKid l i) := by
  have hl : (Tm.marks (l.take i) k).length = i := by rw [Tm.marks_length, List.length_take]; omega
  rw [Tm.part, List.getElem?_append_right (by omega), hl, Nat.sub_self, tedrop_kid h]; rfl
theorem Tm.part_set {l : List Tm} {k i : Nat} (h : i < l.length) : (Tm.part l k i).set i ((teKid l i).mark (k + Tm.mws (l.take i))) = Tm.part l k (i + 1) := by
  have hl : (Tm.marks (l.take i) k).length = i := by rw [Tm.marks_length, List.length_take]; omega
  rw [Tm.part, List.set_append_right _ _ (by omega), hl, Nat.sub_self, tedrop_kid h, Tm.part, tetake_kid h, Tm.marks_append]
  simp [Tm.marks]
theorem Tm.mws_take {l : List Tm} {i : Nat} (h : i < l.length) : Tm.mws (l.take (i + 1)) = Tm.mws (l.take i) + (teKid l i).mw := by
  rw [tetake_kid h, Tm.mws_append]; simp [Tm.mws]
theorem Tm.mws_take_le (l : List Tm) (i : Nat) : Tm.mws (l.take i) ≤ Tm.mws l := by
  have := Tm.mws_append (l.take i) (l.drop i)
  rw [List.take_append_drop] at this; omega
theorem Tm.len_mws : ∀ l : List Tm, l.length ≤ Tm.mws l
  | [] => Nat.le_refl _
  | t :: l => by have := Tm.len_mws l; have := t.mw_eq; simp only [List.length_cons, Tm.mws]; omega
end Go.Proofs.Grad
namespace Go.Proofs.Sh
open Go.RowKit Go.Proofs.Grad
theorem teR_set (l : List Tm) (i : Nat) (t : Tm) : (teR l).set i (teC t) = teR (l.set i t) := by
  induction l generalizing i with
  | nil => rfl
  | cons x l ih => cases i <;> simp [teR, ih]
end Go.Proofs.Sh
/- Owned trees behind known blocks: calls that make, read and mark them. -/
namespace Go.Proofs.Sh
open Go.RowKit Go.Proofs.Grad

/-- a struct's cells, a tree owned in T, which lies behind p blocks -/
structure OwnT (p : Nat) (T : List Blk) (cs enc : List C) (ids : List Nat) : Prop where
  nodup : ids.Nodup
  ge : ∀ b ∈ ids, p ≤ b
  own : ∃ d, ∀ pre : List Blk, pre.length = p → fzL (ow (pre ++ T) d) cs = some (enc, ids)
theorem OwnT.lt {p : Nat} {T : List Blk} {cs enc : List C} {ids : List Nat} (h : OwnT p T cs enc ids) : ∀ b ∈ ids, b < T.length + p := fun b hb => by
  obtain ⟨d, hd⟩ := h.own
  have := (owL_mut (hd (List.replicate p ⟨0, 0, .dead, []⟩) (by simp)) b hb).lt
  simp only [List.length_append, List.length_replicate] at this; omega
theorem OwnT.len {p : Nat} {T : List Blk} {cs enc : List C} {ids : List Nat} (h : OwnT p T cs enc ids) : cs.length = enc.length := by
  obtain ⟨d, hd⟩ := h.own
  exact (fzL_len (hd (List.replicate p ⟨0, 0, .dead, []⟩) (by simp))).symm
theorem OwnT.ext {p : Nat} {T T' : List Blk} {cs enc : List C} {ids : List Nat} (h : OwnT p T cs enc ids) (hf : ∀ i, i < T.length → i + p ∈ ids → T'[i]? = T[i]?) : OwnT p T' cs enc ids := by
  refine ⟨h.nodup, h.ge, ?_⟩
  obtain ⟨d, hd⟩ := h.own
  refine ⟨d, fun pre hp => owL_frame (hd pre hp) (fun b hb => ?_)⟩
  have h1 := h.ge b hb
  have h2 := h.lt b hb
  rw [List.getElem?_append_right (by omega), List.getElem?_append_right (by omega), hp]
  exact hf _ (by omega) (by rw [Nat.sub_add_cancel h1]; exact hb)
theorem OwnT.app {p : Nat} {T : List Blk} {cs enc : List C} {ids : List Nat} (h : OwnT p T cs enc ids) (X : List Blk) : OwnT p (T ++ X) cs enc ids := h.ext (fun i hi _ => List.getElem?_append_left hi)
theorem OwnT.lent {p : Nat} {T pre : List Blk} {cs enc : List C} {ids : List Nat} (h : OwnT p T cs enc ids) (hp : pre.length = p) : Lent (pre ++ T) (.agg cs) (.agg enc) ids := by
  obtain ⟨d, hd⟩ := h.own
  exact .agg (hd pre hp)

/-- a call that yields an owned tree -/
theorem acalls_ownT {P : Program} {f : FuncId} {args args' : List AV} {p : Nat} {pre T : List Blk} {is : List Nat} {enc : List C} {F : List C → AV} (hp : pre.length = p) (hz : Lents (pre ++ T) args args' is) (hc : ACl P f args' [] (OwnK enc F)) (hF : ∀ cs, cs.all C.flat = true → (F cs).flat = true) (hR : ∀ cs g, (F cs).ren g = F (cs.map (C.ren g))) :
    ACalls P f args (pre ++ T) [] (fun r h' => ∃ cs T' ids, r = F cs ∧ h' = pre ++ T' ∧ T.length ≤ T'.length ∧ (∀ i, i < T.length → T'[i]? = T[i]?) ∧ OwnT p T' cs enc ids ∧ ∀ b ∈ ids, T.length + p ≤ b) := by
  refine (acalls_own hz hc hF hR).mono ?_
  rintro r h' ⟨cs, d, ids, rfl, e1, e2, e3, e4, e5⟩
  obtain ⟨T', rfl, f1, f2⟩ := pre_split pre e4 e5
  have hge : ∀ b ∈ ids, T.length + p ≤ b := fun b hb => by have := (e3 b hb).1; simp only [List.length_append] at this; omega
  refine ⟨cs, T', ids, rfl, rfl, f1, f2, ⟨e2, fun b hb => by have := hge b hb; omega, d, fun pre' hp' => ?_⟩, hge⟩
  exact owL_pre (by omega) (fun _ _ => rfl) e1 (fun b hb => by have := hge b hb; omega)
/-- a call that reads owned trees -/
theorem acalls_readT {P : Program} {f : FuncId} {args args' : List AV} {h : List Blk} {is : List Nat} {v : Value} (hz : Lents h args args' is) (hc : AFn P f args' (.one (.sc v))) : ACalls P f args h [] (fun r' h' => r' = .one (.sc v) ∧ h' = h) :=
  acalls_read hz hc rfl (fun _ => rfl)
/-- a call that changes an owned tree -/
theorem acalls_changeT {P : Program} {f : FuncId} {args : List AV} {p : Nat} {pre T : List Blk} {cs enc : List C} {ids : List Nat} {v : Value} (hp : pre.length = p) (hge : ∀ b ∈ ids, p ≤ b) (hn : ids.Nodup)
    (hc : ∃ d, ACl P f args (pre ++ T) (fun r h' => r = .one (.sc v) ∧ fzL (ow h' d) cs = some (enc, ids) ∧ (pre ++ T).length ≤ h'.length ∧ ∀ b, b < (pre ++ T).length → b ∉ ids → h'[b]? = (pre ++ T)[b]?)) :
    ∃ ks, ACalls P f args (pre ++ T) ks (fun r h' => ∃ T', r = .one (.sc v) ∧ h' = pre ++ T' ∧ T.length ≤ T'.length ∧ (∀ i, i < T.length → i + p ∉ ids → T'[i]? = T[i]?) ∧ OwnT p T' cs enc ids) := by
  obtain ⟨d, hc⟩ := hc
  refine ⟨_, (acalls_full hc).mono ?_⟩
  rintro r h' ⟨rfl, e1, e2, e3⟩
  have hh : h' = pre ++ h'.drop pre.length := by
    apply List.ext_getElem?
    intro i
    by_cases hi : i < pre.length
    · rw [e3 i (by simp only [List.length_append]; omega) (fun hm => by have := hge i hm; omega), List.getElem?_append_left hi, List.getElem?_append_left hi]
    · rw [List.getElem?_append_right (by omega), List.getElem?_drop]; congr 1; omega
  refine ⟨h'.drop pre.length, rfl, hh, by simp only [List.length_append, List.length_drop] at *; omega, fun i hi hm => ?_, hn, hge, d, fun pre' hp' => ?_⟩
  · rw [List.getElem?_drop, e3 _ (by simp only [List.length_append]; omega) (by rw [hp, Nat.add_comm]; exact hm), List.getElem?_append_right (by omega)]
    congr 1; omega
  · rw [hh] at e1
    exact owL_pre (by omega) (fun _ _ => rfl) e1 (fun b hb => by have := hge b hb; omega)
theorem wm_at {P : Program} {N : Nat} {R : ASt → Prop} {c : MC} {k : List Item} {f : FuncId} {args : List AV} {o : Oper} {l : List Oper} {U : List Nat} {ok : Bool} {s : ASt} {ks : List Nat} {K' : AV → List Blk → Prop} {h0 : List Blk} (hc : ACalls P f args h0 ks K') (hok : ((ok && ks.all c.ms.contains) || decide (l.length < c.f)) = true)
    (hmut : c.ms.all (fun b => match c.h0[b]? with | some k => k.st.isMut | none => false) = true) (hs : h0 = s.h)
    (hK : ∀ r h', K' r h' → WM P N c R k (mrun P c l (addU o.dst U) (ok && ks.all c.ms.contains) (ASt.put ⟨s.n, s.t, h'⟩ o.dst r))) : WM P N c R k (.call f args o l U ok s) := by
  subst hs
  exact wm_any hc hok hmut hK
/-- a list of terms' marks are few -/
theorem _root_.Go.Proofs.Grad.Ty.sizes_kids (t : Ty) : Ty.sizes t.kids < t.size := by cases t; simp only [Ty.size, Ty.kids]; omega
end Go.Proofs.Sh
namespace Go.Proofs.Grad
mutual
theorem Tm.mw_le : ∀ t : Tm, t.mw ≤ 6 * t.size
  | .mk k n m t f l a => by
    have h1 := Ty.sizes_kids t; have h2 := Ty.sizes_kids f; have h3 := Tm.mws_le a
    simp only [Tm.mw, Tm.size]; omega
theorem Tm.mws_le : ∀ l : List Tm, Tm.mws l ≤ 6 * Tm.sizes l
  | [] => Nat.le_refl _
  | t :: l => by have h1 := Tm.mw_le t; have h2 := Tm.mws_le l; simp only [Tm.mws, Tm.sizes]; omega
end
end Go.Proofs.Grad
