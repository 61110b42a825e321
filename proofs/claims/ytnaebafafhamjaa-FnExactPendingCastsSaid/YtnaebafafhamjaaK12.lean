/- Texts of the proof, one behind another. -/
import Derived.Test.YtnaebafafhamjaaK1
import Derived.Test.YtnaebafafhamjaaK10
import Derived.Test.YtnaebafafhamjaaK11
set_option linter.unusedSimpArgs false
set_option linter.unusedVariables false
/- Steps of terms with casts, in the reference. On shadows. -/
namespace Go.Proofs.Ytnaebafafhamjaa
open Go.RowKit Go.Proofs.Sh Go.Proofs.Grad
set_option maxRecDepth 100000
set_option maxHeartbeats 8000000
theorem sStep (e : E) : e.wf = true → e.noA = true → e.val = false → e.tm.size < 100000000 → AFn Try.prog 72 [.agg (teC e.tm)] (srS e.step) := by
  induction e with
  | app a b iha ihb =>
    intro hw hn hv hz
    have hr := sReduce (.app a b) hw hz rfl
    simp only [E.wf, E.noA, Bool.and_eq_true] at hw hn
    simp only [E.tm, nd, Tm.size, Tm.sizes] at hz
    have va := sIsVal a hw.1
    have vb := sIsVal b hw.2
    rw [E.val_tm] at va vb
    simp only [E.step]
    cases ea : a.val
    · rw [ea] at va
      have h1 := iha hw.1 hn.1 ea (by omega)
      cases es : a.step
      all_goals
        rw [es] at h1
        simp only [SR.map, srS, SR.tm, SR.code, SR.lab] at h1 ⊢
        simp only [E.tm, nd]
        refine fn_in ?_; refine acl_in Try.func72 rfl isfn_72 (Nat.le_of_ble_eq_true rfl) (fun R hR => ?_); rw [Try.results72] at hR; refine wg_run ?_; (simp only [Try.f72, go_sem])
        repeat' (first | (first | (simp only [go_sem, int_bne]) | ((first | refine wd_split _ (fun hb => ?_) (fun hb => ?_) | refine wd_nwant _ (fun hb => ?_) (fun hb => ?_) | refine wm_nwant _ (fun hb => ?_) (fun hb => ?_) | refine wd_want _ (fun hb => ?_) (fun hb => ?_) | refine wm_want _ (fun hb => ?_) (fun hb => ?_) | refine wt_nwant _ (fun hb => ?_) (fun hb => ?_) | refine wt_want _ (fun hb => ?_) (fun hb => ?_)) <;> (simp only [go_sem, hb, int_bne])) | (refine wm_done ?_; (simp only [go_sem, int_bne])) | (refine wt_done ?_; (simp only [go_sem, int_bne])) | (refine wg_run ?_; (simp only [go_sem, int_bne])) | (refine wt_fork (by (simp only [go_sem]); first | done | rfl) ?_ ?_ <;> (simp only [go_sem, int_bne]))) | (first | (refine wl_next (wg_run ?_); (simp only [go_sem])) | refine wd_rounds 6 ?_) | ((first | refine wd_mix 6 [] follows (by decide +kernel) (by (simp only [go_sem]); first | done | rfl) ?_ | refine wd_mix 5 [] follows (by decide +kernel) (by (simp only [go_sem]); first | done | rfl) ?_ | refine wd_mix 4 [] follows (by decide +kernel) (by (simp only [go_sem]); first | done | rfl) ?_ | refine wd_mix 3 [] follows (by decide +kernel) (by (simp only [go_sem]); first | done | rfl) ?_ | refine wd_mix 2 [] follows (by decide +kernel) (by (simp only [go_sem]); first | done | rfl) ?_ | refine wd_mix 1 [] follows (by decide +kernel) (by (simp only [go_sem]); first | done | rfl) ?_ | refine wd_mix 0 [] follows (by decide +kernel) (by (simp only [go_sem]); first | done | rfl) ?_ | fail); (simp only [go_sem, int_bne])) | (first | refine wd_fn (by (simp only [go_sem]); first | done | rfl) (va) ?_ | refine wm_fn (by (simp only [go_sem]); first | done | rfl) (va) (by (simp only [go_sem]); first | done | rfl) (by (simp only [go_sem]); first | done | rfl) ?_ | refine wt_fn (by (simp only [go_sem]); first | done | rfl) (va) (by (simp only [go_sem]); first | done | rfl) (by (simp only [go_sem]); first | done | rfl) ?_); (simp only [go_sem]) | (first | refine wd_fn (by (simp only [go_sem]); first | done | rfl) (h1) ?_ | refine wm_fn (by (simp only [go_sem]); first | done | rfl) (h1) (by (simp only [go_sem]); first | done | rfl) (by (simp only [go_sem]); first | done | rfl) ?_ | refine wt_fn (by (simp only [go_sem]); first | done | rfl) (h1) (by (simp only [go_sem]); first | done | rfl) (by (simp only [go_sem]); first | done | rfl) ?_); (simp only [go_sem]) | fail)
        all_goals (refine hR _ ?_; refine ret_at [] (by (simp only [go_sem]); first | done | rfl) (by (simp only [go_sem]); first | done | rfl) ⟨rfl, rfl⟩)
    · rw [ea] at va
      simp only []
      cases eb : b.val
      · rw [eb] at vb
        have h1 := ihb hw.2 hn.2 eb (by omega)
        cases es : b.step
        all_goals
          rw [es] at h1
          simp only [SR.map, srS, SR.tm, SR.code, SR.lab] at h1 ⊢
          simp only [E.tm, nd]
          refine fn_in ?_; refine acl_in Try.func72 rfl isfn_72 (Nat.le_of_ble_eq_true rfl) (fun R hR => ?_); rw [Try.results72] at hR; refine wg_run ?_; (simp only [Try.f72, go_sem])
          repeat' (first | (first | (simp only [go_sem, int_bne]) | ((first | refine wd_split _ (fun hb => ?_) (fun hb => ?_) | refine wd_nwant _ (fun hb => ?_) (fun hb => ?_) | refine wm_nwant _ (fun hb => ?_) (fun hb => ?_) | refine wd_want _ (fun hb => ?_) (fun hb => ?_) | refine wm_want _ (fun hb => ?_) (fun hb => ?_) | refine wt_nwant _ (fun hb => ?_) (fun hb => ?_) | refine wt_want _ (fun hb => ?_) (fun hb => ?_)) <;> (simp only [go_sem, hb, int_bne])) | (refine wm_done ?_; (simp only [go_sem, int_bne])) | (refine wt_done ?_; (simp only [go_sem, int_bne])) | (refine wg_run ?_; (simp only [go_sem, int_bne])) | (refine wt_fork (by (simp only [go_sem]); first | done | rfl) ?_ ?_ <;> (simp only [go_sem, int_bne]))) | (first | (refine wl_next (wg_run ?_); (simp only [go_sem])) | refine wd_rounds 6 ?_) | ((first | refine wd_mix 6 [] follows (by decide +kernel) (by (simp only [go_sem]); first | done | rfl) ?_ | refine wd_mix 5 [] follows (by decide +kernel) (by (simp only [go_sem]); first | done | rfl) ?_ | refine wd_mix 4 [] follows (by decide +kernel) (by (simp only [go_sem]); first | done | rfl) ?_ | refine wd_mix 3 [] follows (by decide +kernel) (by (simp only [go_sem]); first | done | rfl) ?_ | refine wd_mix 2 [] follows (by decide +kernel) (by (simp only [go_sem]); first | done | rfl) ?_ | refine wd_mix 1 [] follows (by decide +kernel) (by (simp only [go_sem]); first | done | rfl) ?_ | refine wd_mix 0 [] follows (by decide +kernel) (by (simp only [go_sem]); first | done | rfl) ?_ | fail); (simp only [go_sem, int_bne])) | (first | refine wd_fn (by (simp only [go_sem]); first | done | rfl) (va) ?_ | refine wm_fn (by (simp only [go_sem]); first | done | rfl) (va) (by (simp only [go_sem]); first | done | rfl) (by (simp only [go_sem]); first | done | rfl) ?_ | refine wt_fn (by (simp only [go_sem]); first | done | rfl) (va) (by (simp only [go_sem]); first | done | rfl) (by (simp only [go_sem]); first | done | rfl) ?_); (simp only [go_sem]) | (first | refine wd_fn (by (simp only [go_sem]); first | done | rfl) (vb) ?_ | refine wm_fn (by (simp only [go_sem]); first | done | rfl) (vb) (by (simp only [go_sem]); first | done | rfl) (by (simp only [go_sem]); first | done | rfl) ?_ | refine wt_fn (by (simp only [go_sem]); first | done | rfl) (vb) (by (simp only [go_sem]); first | done | rfl) (by (simp only [go_sem]); first | done | rfl) ?_); (simp only [go_sem]) | (first | refine wd_fn (by (simp only [go_sem]); first | done | rfl) (h1) ?_ | refine wm_fn (by (simp only [go_sem]); first | done | rfl) (h1) (by (simp only [go_sem]); first | done | rfl) (by (simp only [go_sem]); first | done | rfl) ?_ | refine wt_fn (by (simp only [go_sem]); first | done | rfl) (h1) (by (simp only [go_sem]); first | done | rfl) (by (simp only [go_sem]); first | done | rfl) ?_); (simp only [go_sem]) | fail)
          all_goals (refine hR _ ?_; refine ret_at [] (by (simp only [go_sem]); first | done | rfl) (by (simp only [go_sem]); first | done | rfl) ⟨rfl, rfl⟩)
      · rw [eb] at vb
        rw [red_app] at hr
        simp only []
        simp only [E.tm, nd] at hr ⊢
        unfold srS at hr ⊢
        refine fn_in ?_; refine acl_in Try.func72 rfl isfn_72 (Nat.le_of_ble_eq_true rfl) (fun R hR => ?_); rw [Try.results72] at hR; refine wg_run ?_; (simp only [Try.f72, go_sem])
        repeat' (first | (first | (simp only [go_sem, int_bne]) | ((first | refine wd_split _ (fun hb => ?_) (fun hb => ?_) | refine wd_nwant _ (fun hb => ?_) (fun hb => ?_) | refine wm_nwant _ (fun hb => ?_) (fun hb => ?_) | refine wd_want _ (fun hb => ?_) (fun hb => ?_) | refine wm_want _ (fun hb => ?_) (fun hb => ?_) | refine wt_nwant _ (fun hb => ?_) (fun hb => ?_) | refine wt_want _ (fun hb => ?_) (fun hb => ?_)) <;> (simp only [go_sem, hb, int_bne])) | (refine wm_done ?_; (simp only [go_sem, int_bne])) | (refine wt_done ?_; (simp only [go_sem, int_bne])) | (refine wg_run ?_; (simp only [go_sem, int_bne])) | (refine wt_fork (by (simp only [go_sem]); first | done | rfl) ?_ ?_ <;> (simp only [go_sem, int_bne]))) | (first | (refine wl_next (wg_run ?_); (simp only [go_sem])) | refine wd_rounds 6 ?_) | ((first | refine wd_mix 6 [] follows (by decide +kernel) (by (simp only [go_sem]); first | done | rfl) ?_ | refine wd_mix 5 [] follows (by decide +kernel) (by (simp only [go_sem]); first | done | rfl) ?_ | refine wd_mix 4 [] follows (by decide +kernel) (by (simp only [go_sem]); first | done | rfl) ?_ | refine wd_mix 3 [] follows (by decide +kernel) (by (simp only [go_sem]); first | done | rfl) ?_ | refine wd_mix 2 [] follows (by decide +kernel) (by (simp only [go_sem]); first | done | rfl) ?_ | refine wd_mix 1 [] follows (by decide +kernel) (by (simp only [go_sem]); first | done | rfl) ?_ | refine wd_mix 0 [] follows (by decide +kernel) (by (simp only [go_sem]); first | done | rfl) ?_ | fail); (simp only [go_sem, int_bne])) | (first | refine wd_fn (by (simp only [go_sem]); first | done | rfl) (va) ?_ | refine wm_fn (by (simp only [go_sem]); first | done | rfl) (va) (by (simp only [go_sem]); first | done | rfl) (by (simp only [go_sem]); first | done | rfl) ?_ | refine wt_fn (by (simp only [go_sem]); first | done | rfl) (va) (by (simp only [go_sem]); first | done | rfl) (by (simp only [go_sem]); first | done | rfl) ?_); (simp only [go_sem]) | (first | refine wd_fn (by (simp only [go_sem]); first | done | rfl) (vb) ?_ | refine wm_fn (by (simp only [go_sem]); first | done | rfl) (vb) (by (simp only [go_sem]); first | done | rfl) (by (simp only [go_sem]); first | done | rfl) ?_ | refine wt_fn (by (simp only [go_sem]); first | done | rfl) (vb) (by (simp only [go_sem]); first | done | rfl) (by (simp only [go_sem]); first | done | rfl) ?_); (simp only [go_sem]) | (first | refine wd_fn (by (simp only [go_sem]); first | done | rfl) (hr) ?_ | refine wm_fn (by (simp only [go_sem]); first | done | rfl) (hr) (by (simp only [go_sem]); first | done | rfl) (by (simp only [go_sem]); first | done | rfl) ?_ | refine wt_fn (by (simp only [go_sem]); first | done | rfl) (hr) (by (simp only [go_sem]); first | done | rfl) (by (simp only [go_sem]); first | done | rfl) ?_); (simp only [go_sem]) | fail)
        all_goals (refine hR _ ?_; refine ret_at [] (by (simp only [go_sem]); first | done | rfl) (by (simp only [go_sem]); first | done | rfl) ⟨rfl, rfl⟩)
  | add a b iha ihb =>
    intro hw hn hv hz
    have hr := sReduce (.add a b) hw hz rfl
    simp only [E.wf, E.noA, Bool.and_eq_true] at hw hn
    simp only [E.tm, nd, Tm.size, Tm.sizes] at hz
    have va := sIsVal a hw.1
    have vb := sIsVal b hw.2
    rw [E.val_tm] at va vb
    simp only [E.step]
    cases ea : a.val
    · rw [ea] at va
      have h1 := iha hw.1 hn.1 ea (by omega)
      cases es : a.step
      all_goals
        rw [es] at h1
        simp only [SR.map, srS, SR.tm, SR.code, SR.lab] at h1 ⊢
        simp only [E.tm, nd]
        refine fn_in ?_; refine acl_in Try.func72 rfl isfn_72 (Nat.le_of_ble_eq_true rfl) (fun R hR => ?_); rw [Try.results72] at hR; refine wg_run ?_; (simp only [Try.f72, go_sem])
        repeat' (first | (first | (simp only [go_sem, int_bne]) | ((first | refine wd_split _ (fun hb => ?_) (fun hb => ?_) | refine wd_nwant _ (fun hb => ?_) (fun hb => ?_) | refine wm_nwant _ (fun hb => ?_) (fun hb => ?_) | refine wd_want _ (fun hb => ?_) (fun hb => ?_) | refine wm_want _ (fun hb => ?_) (fun hb => ?_) | refine wt_nwant _ (fun hb => ?_) (fun hb => ?_) | refine wt_want _ (fun hb => ?_) (fun hb => ?_)) <;> (simp only [go_sem, hb, int_bne])) | (refine wm_done ?_; (simp only [go_sem, int_bne])) | (refine wt_done ?_; (simp only [go_sem, int_bne])) | (refine wg_run ?_; (simp only [go_sem, int_bne])) | (refine wt_fork (by (simp only [go_sem]); first | done | rfl) ?_ ?_ <;> (simp only [go_sem, int_bne]))) | (first | (refine wl_next (wg_run ?_); (simp only [go_sem])) | refine wd_rounds 6 ?_) | ((first | refine wd_mix 6 [] follows (by decide +kernel) (by (simp only [go_sem]); first | done | rfl) ?_ | refine wd_mix 5 [] follows (by decide +kernel) (by (simp only [go_sem]); first | done | rfl) ?_ | refine wd_mix 4 [] follows (by decide +kernel) (by (simp only [go_sem]); first | done | rfl) ?_ | refine wd_mix 3 [] follows (by decide +kernel) (by (simp only [go_sem]); first | done | rfl) ?_ | refine wd_mix 2 [] follows (by decide +kernel) (by (simp only [go_sem]); first | done | rfl) ?_ | refine wd_mix 1 [] follows (by decide +kernel) (by (simp only [go_sem]); first | done | rfl) ?_ | refine wd_mix 0 [] follows (by decide +kernel) (by (simp only [go_sem]); first | done | rfl) ?_ | fail); (simp only [go_sem, int_bne])) | (first | refine wd_fn (by (simp only [go_sem]); first | done | rfl) (va) ?_ | refine wm_fn (by (simp only [go_sem]); first | done | rfl) (va) (by (simp only [go_sem]); first | done | rfl) (by (simp only [go_sem]); first | done | rfl) ?_ | refine wt_fn (by (simp only [go_sem]); first | done | rfl) (va) (by (simp only [go_sem]); first | done | rfl) (by (simp only [go_sem]); first | done | rfl) ?_); (simp only [go_sem]) | (first | refine wd_fn (by (simp only [go_sem]); first | done | rfl) (h1) ?_ | refine wm_fn (by (simp only [go_sem]); first | done | rfl) (h1) (by (simp only [go_sem]); first | done | rfl) (by (simp only [go_sem]); first | done | rfl) ?_ | refine wt_fn (by (simp only [go_sem]); first | done | rfl) (h1) (by (simp only [go_sem]); first | done | rfl) (by (simp only [go_sem]); first | done | rfl) ?_); (simp only [go_sem]) | fail)
        all_goals (refine hR _ ?_; refine ret_at [] (by (simp only [go_sem]); first | done | rfl) (by (simp only [go_sem]); first | done | rfl) ⟨rfl, rfl⟩)
    · rw [ea] at va
      simp only []
      cases eb : b.val
      · rw [eb] at vb
        have h1 := ihb hw.2 hn.2 eb (by omega)
        cases es : b.step
        all_goals
          rw [es] at h1
          simp only [SR.map, srS, SR.tm, SR.code, SR.lab] at h1 ⊢
          simp only [E.tm, nd]
          refine fn_in ?_; refine acl_in Try.func72 rfl isfn_72 (Nat.le_of_ble_eq_true rfl) (fun R hR => ?_); rw [Try.results72] at hR; refine wg_run ?_; (simp only [Try.f72, go_sem])
          repeat' (first | (first | (simp only [go_sem, int_bne]) | ((first | refine wd_split _ (fun hb => ?_) (fun hb => ?_) | refine wd_nwant _ (fun hb => ?_) (fun hb => ?_) | refine wm_nwant _ (fun hb => ?_) (fun hb => ?_) | refine wd_want _ (fun hb => ?_) (fun hb => ?_) | refine wm_want _ (fun hb => ?_) (fun hb => ?_) | refine wt_nwant _ (fun hb => ?_) (fun hb => ?_) | refine wt_want _ (fun hb => ?_) (fun hb => ?_)) <;> (simp only [go_sem, hb, int_bne])) | (refine wm_done ?_; (simp only [go_sem, int_bne])) | (refine wt_done ?_; (simp only [go_sem, int_bne])) | (refine wg_run ?_; (simp only [go_sem, int_bne])) | (refine wt_fork (by (simp only [go_sem]); first | done | rfl) ?_ ?_ <;> (simp only [go_sem, int_bne]))) | (first | (refine wl_next (wg_run ?_); (simp only [go_sem])) | refine wd_rounds 6 ?_) | ((first | refine wd_mix 6 [] follows (by decide +kernel) (by (simp only [go_sem]); first | done | rfl) ?_ | refine wd_mix 5 [] follows (by decide +kernel) (by (simp only [go_sem]); first | done | rfl) ?_ | refine wd_mix 4 [] follows (by decide +kernel) (by (simp only [go_sem]); first | done | rfl) ?_ | refine wd_mix 3 [] follows (by decide +kernel) (by (simp only [go_sem]); first | done | rfl) ?_ | refine wd_mix 2 [] follows (by decide +kernel) (by (simp only [go_sem]); first | done | rfl) ?_ | refine wd_mix 1 [] follows (by decide +kernel) (by (simp only [go_sem]); first | done | rfl) ?_ | refine wd_mix 0 [] follows (by decide +kernel) (by (simp only [go_sem]); first | done | rfl) ?_ | fail); (simp only [go_sem, int_bne])) | (first | refine wd_fn (by (simp only [go_sem]); first | done | rfl) (va) ?_ | refine wm_fn (by (simp only [go_sem]); first | done | rfl) (va) (by (simp only [go_sem]); first | done | rfl) (by (simp only [go_sem]); first | done | rfl) ?_ | refine wt_fn (by (simp only [go_sem]); first | done | rfl) (va) (by (simp only [go_sem]); first | done | rfl) (by (simp only [go_sem]); first | done | rfl) ?_); (simp only [go_sem]) | (first | refine wd_fn (by (simp only [go_sem]); first | done | rfl) (vb) ?_ | refine wm_fn (by (simp only [go_sem]); first | done | rfl) (vb) (by (simp only [go_sem]); first | done | rfl) (by (simp only [go_sem]); first | done | rfl) ?_ | refine wt_fn (by (simp only [go_sem]); first | done | rfl) (vb) (by (simp only [go_sem]); first | done | rfl) (by (simp only [go_sem]); first | done | rfl) ?_); (simp only [go_sem]) | (first | refine wd_fn (by (simp only [go_sem]); first | done | rfl) (h1) ?_ | refine wm_fn (by (simp only [go_sem]); first | done | rfl) (h1) (by (simp only [go_sem]); first | done | rfl) (by (simp only [go_sem]); first | done | rfl) ?_ | refine wt_fn (by (simp only [go_sem]); first | done | rfl) (h1) (by (simp only [go_sem]); first | done | rfl) (by (simp only [go_sem]); first | done | rfl) ?_); (simp only [go_sem]) | fail)
          all_goals (refine hR _ ?_; refine ret_at [] (by (simp only [go_sem]); first | done | rfl) (by (simp only [go_sem]); first | done | rfl) ⟨rfl, rfl⟩)
      · rw [eb] at vb
        rw [red_add] at hr
        simp only []
        simp only [E.tm, nd] at hr ⊢
        unfold srS at hr ⊢
        refine fn_in ?_; refine acl_in Try.func72 rfl isfn_72 (Nat.le_of_ble_eq_true rfl) (fun R hR => ?_); rw [Try.results72] at hR; refine wg_run ?_; (simp only [Try.f72, go_sem])
        repeat' (first | (first | (simp only [go_sem, int_bne]) | ((first | refine wd_split _ (fun hb => ?_) (fun hb => ?_) | refine wd_nwant _ (fun hb => ?_) (fun hb => ?_) | refine wm_nwant _ (fun hb => ?_) (fun hb => ?_) | refine wd_want _ (fun hb => ?_) (fun hb => ?_) | refine wm_want _ (fun hb => ?_) (fun hb => ?_) | refine wt_nwant _ (fun hb => ?_) (fun hb => ?_) | refine wt_want _ (fun hb => ?_) (fun hb => ?_)) <;> (simp only [go_sem, hb, int_bne])) | (refine wm_done ?_; (simp only [go_sem, int_bne])) | (refine wt_done ?_; (simp only [go_sem, int_bne])) | (refine wg_run ?_; (simp only [go_sem, int_bne])) | (refine wt_fork (by (simp only [go_sem]); first | done | rfl) ?_ ?_ <;> (simp only [go_sem, int_bne]))) | (first | (refine wl_next (wg_run ?_); (simp only [go_sem])) | refine wd_rounds 6 ?_) | ((first | refine wd_mix 6 [] follows (by decide +kernel) (by (simp only [go_sem]); first | done | rfl) ?_ | refine wd_mix 5 [] follows (by decide +kernel) (by (simp only [go_sem]); first | done | rfl) ?_ | refine wd_mix 4 [] follows (by decide +kernel) (by (simp only [go_sem]); first | done | rfl) ?_ | refine wd_mix 3 [] follows (by decide +kernel) (by (simp only [go_sem]); first | done | rfl) ?_ | refine wd_mix 2 [] follows (by decide +kernel) (by (simp only [go_sem]); first | done | rfl) ?_ | refine wd_mix 1 [] follows (by decide +kernel) (by (simp only [go_sem]); first | done | rfl) ?_ | refine wd_mix 0 [] follows (by decide +kernel) (by (simp only [go_sem]); first | done | rfl) ?_ | fail); (simp only [go_sem, int_bne])) | (first | refine wd_fn (by (simp only [go_sem]); first | done | rfl) (va) ?_ | refine wm_fn (by (simp only [go_sem]); first | done | rfl) (va) (by (simp only [go_sem]); first | done | rfl) (by (simp only [go_sem]); first | done | rfl) ?_ | refine wt_fn (by (simp only [go_sem]); first | done | rfl) (va) (by (simp only [go_sem]); first | done | rfl) (by (simp only [go_sem]); first | done | rfl) ?_); (simp only [go_sem]) | (first | refine wd_fn (by (simp only [go_sem]); first | done | rfl) (vb) ?_ | refine wm_fn (by (simp only [go_sem]); first | done | rfl) (vb) (by (simp only [go_sem]); first | done | rfl) (by (simp only [go_sem]); first | done | rfl) ?_ | refine wt_fn (by (simp only [go_sem]); first | done | rfl) (vb) (by (simp only [go_sem]); first | done | rfl) (by (simp only [go_sem]); first | done | rfl) ?_); (simp only [go_sem]) | (first | refine wd_fn (by (simp only [go_sem]); first | done | rfl) (hr) ?_ | refine wm_fn (by (simp only [go_sem]); first | done | rfl) (hr) (by (simp only [go_sem]); first | done | rfl) (by (simp only [go_sem]); first | done | rfl) ?_ | refine wt_fn (by (simp only [go_sem]); first | done | rfl) (hr) (by (simp only [go_sem]); first | done | rfl) (by (simp only [go_sem]); first | done | rfl) ?_); (simp only [go_sem]) | fail)
        all_goals (refine hR _ ?_; refine ret_at [] (by (simp only [go_sem]); first | done | rfl) (by (simp only [go_sem]); first | done | rfl) ⟨rfl, rfl⟩)
  | less a b iha ihb =>
    intro hw hn hv hz
    have hr := sReduce (.less a b) hw hz rfl
    simp only [E.wf, E.noA, Bool.and_eq_true] at hw hn
    simp only [E.tm, nd, Tm.size, Tm.sizes] at hz
    have va := sIsVal a hw.1
    have vb := sIsVal b hw.2
    rw [E.val_tm] at va vb
    simp only [E.step]
    cases ea : a.val
    · rw [ea] at va
      have h1 := iha hw.1 hn.1 ea (by omega)
      cases es : a.step
      all_goals
        rw [es] at h1
        simp only [SR.map, srS, SR.tm, SR.code, SR.lab] at h1 ⊢
        simp only [E.tm, nd]
        refine fn_in ?_; refine acl_in Try.func72 rfl isfn_72 (Nat.le_of_ble_eq_true rfl) (fun R hR => ?_); rw [Try.results72] at hR; refine wg_run ?_; (simp only [Try.f72, go_sem])
        repeat' (first | (first | (simp only [go_sem, int_bne]) | ((first | refine wd_split _ (fun hb => ?_) (fun hb => ?_) | refine wd_nwant _ (fun hb => ?_) (fun hb => ?_) | refine wm_nwant _ (fun hb => ?_) (fun hb => ?_) | refine wd_want _ (fun hb => ?_) (fun hb => ?_) | refine wm_want _ (fun hb => ?_) (fun hb => ?_) | refine wt_nwant _ (fun hb => ?_) (fun hb => ?_) | refine wt_want _ (fun hb => ?_) (fun hb => ?_)) <;> (simp only [go_sem, hb, int_bne])) | (refine wm_done ?_; (simp only [go_sem, int_bne])) | (refine wt_done ?_; (simp only [go_sem, int_bne])) | (refine wg_run ?_; (simp only [go_sem, int_bne])) | (refine wt_fork (by (simp only [go_sem]); first | done | rfl) ?_ ?_ <;> (simp only [go_sem, int_bne]))) | (first | (refine wl_next (wg_run ?_); (simp only [go_sem])) | refine wd_rounds 6 ?_) | ((first | refine wd_mix 6 [] follows (by decide +kernel) (by (simp only [go_sem]); first | done | rfl) ?_ | refine wd_mix 5 [] follows (by decide +kernel) (by (simp only [go_sem]); first | done | rfl) ?_ | refine wd_mix 4 [] follows (by decide +kernel) (by (simp only [go_sem]); first | done | rfl) ?_ | refine wd_mix 3 [] follows (by decide +kernel) (by (simp only [go_sem]); first | done | rfl) ?_ | refine wd_mix 2 [] follows (by decide +kernel) (by (simp only [go_sem]); first | done | rfl) ?_ | refine wd_mix 1 [] follows (by decide +kernel) (by (simp only [go_sem]); first | done | rfl) ?_ | refine wd_mix 0 [] follows (by decide +kernel) (by (simp only [go_sem]); first | done | rfl) ?_ | fail); (simp only [go_sem, int_bne])) | (first | refine wd_fn (by (simp only [go_sem]); first | done | rfl) (va) ?_ | refine wm_fn (by (simp only [go_sem]); first | done | rfl) (va) (by (simp only [go_sem]); first | done | rfl) (by (simp only [go_sem]); first | done | rfl) ?_ | refine wt_fn (by (simp only [go_sem]); first | done | rfl) (va) (by (simp only [go_sem]); first | done | rfl) (by (simp only [go_sem]); first | done | rfl) ?_); (simp only [go_sem]) | (first | refine wd_fn (by (simp only [go_sem]); first | done | rfl) (h1) ?_ | refine wm_fn (by (simp only [go_sem]); first | done | rfl) (h1) (by (simp only [go_sem]); first | done | rfl) (by (simp only [go_sem]); first | done | rfl) ?_ | refine wt_fn (by (simp only [go_sem]); first | done | rfl) (h1) (by (simp only [go_sem]); first | done | rfl) (by (simp only [go_sem]); first | done | rfl) ?_); (simp only [go_sem]) | fail)
        all_goals (refine hR _ ?_; refine ret_at [] (by (simp only [go_sem]); first | done | rfl) (by (simp only [go_sem]); first | done | rfl) ⟨rfl, rfl⟩)
    · rw [ea] at va
      simp only []
      cases eb : b.val
      · rw [eb] at vb
        have h1 := ihb hw.2 hn.2 eb (by omega)
        cases es : b.step
        all_goals
          rw [es] at h1
          simp only [SR.map, srS, SR.tm, SR.code, SR.lab] at h1 ⊢
          simp only [E.tm, nd]
          refine fn_in ?_; refine acl_in Try.func72 rfl isfn_72 (Nat.le_of_ble_eq_true rfl) (fun R hR => ?_); rw [Try.results72] at hR; refine wg_run ?_; (simp only [Try.f72, go_sem])
          repeat' (first | (first | (simp only [go_sem, int_bne]) | ((first | refine wd_split _ (fun hb => ?_) (fun hb => ?_) | refine wd_nwant _ (fun hb => ?_) (fun hb => ?_) | refine wm_nwant _ (fun hb => ?_) (fun hb => ?_) | refine wd_want _ (fun hb => ?_) (fun hb => ?_) | refine wm_want _ (fun hb => ?_) (fun hb => ?_) | refine wt_nwant _ (fun hb => ?_) (fun hb => ?_) | refine wt_want _ (fun hb => ?_) (fun hb => ?_)) <;> (simp only [go_sem, hb, int_bne])) | (refine wm_done ?_; (simp only [go_sem, int_bne])) | (refine wt_done ?_; (simp only [go_sem, int_bne])) | (refine wg_run ?_; (simp only [go_sem, int_bne])) | (refine wt_fork (by (simp only [go_sem]); first | done | rfl) ?_ ?_ <;> (simp only [go_sem, int_bne]))) | (first | (refine wl_next (wg_run ?_); (simp only [go_sem])) | refine wd_rounds 6 ?_) | ((first | refine wd_mix 6 [] follows (by decide +kernel) (by (simp only [go_sem]); first | done | rfl) ?_ | refine wd_mix 5 [] follows (by decide +kernel) (by (simp only [go_sem]); first | done | rfl) ?_ | refine wd_mix 4 [] follows (by decide +kernel) (by (simp only [go_sem]); first | done | rfl) ?_ | refine wd_mix 3 [] follows (by decide +kernel) (by (simp only [go_sem]); first | done | rfl) ?_ | refine wd_mix 2 [] follows (by decide +kernel) (by (simp only [go_sem]); first | done | rfl) ?_ | refine wd_mix 1 [] follows (by decide +kernel) (by (simp only [go_sem]); first | done | rfl) ?_ | refine wd_mix 0 [] follows (by decide +kernel) (by (simp only [go_sem]); first | done | rfl) ?_ | fail); (simp only [go_sem, int_bne])) | (first | refine wd_fn (by (simp only [go_sem]); first | done | rfl) (va) ?_ | refine wm_fn (by (simp only [go_sem]); first | done | rfl) (va) (by (simp only [go_sem]); first | done | rfl) (by (simp only [go_sem]); first | done | rfl) ?_ | refine wt_fn (by (simp only [go_sem]); first | done | rfl) (va) (by (simp only [go_sem]); first | done | rfl) (by (simp only [go_sem]); first | done | rfl) ?_); (simp only [go_sem]) | (first | refine wd_fn (by (simp only [go_sem]); first | done | rfl) (vb) ?_ | refine wm_fn (by (simp only [go_sem]); first | done | rfl) (vb) (by (simp only [go_sem]); first | done | rfl) (by (simp only [go_sem]); first | done | rfl) ?_ | refine wt_fn (by (simp only [go_sem]); first | done | rfl) (vb) (by (simp only [go_sem]); first | done | rfl) (by (simp only [go_sem]); first | done | rfl) ?_); (simp only [go_sem]) | (first | refine wd_fn (by (simp only [go_sem]); first | done | rfl) (h1) ?_ | refine wm_fn (by (simp only [go_sem]); first | done | rfl) (h1) (by (simp only [go_sem]); first | done | rfl) (by (simp only [go_sem]); first | done | rfl) ?_ | refine wt_fn (by (simp only [go_sem]); first | done | rfl) (h1) (by (simp only [go_sem]); first | done | rfl) (by (simp only [go_sem]); first | done | rfl) ?_); (simp only [go_sem]) | fail)
          all_goals (refine hR _ ?_; refine ret_at [] (by (simp only [go_sem]); first | done | rfl) (by (simp only [go_sem]); first | done | rfl) ⟨rfl, rfl⟩)
      · rw [eb] at vb
        rw [red_less] at hr
        simp only []
        simp only [E.tm, nd] at hr ⊢
        unfold srS at hr ⊢
        refine fn_in ?_; refine acl_in Try.func72 rfl isfn_72 (Nat.le_of_ble_eq_true rfl) (fun R hR => ?_); rw [Try.results72] at hR; refine wg_run ?_; (simp only [Try.f72, go_sem])
        repeat' (first | (first | (simp only [go_sem, int_bne]) | ((first | refine wd_split _ (fun hb => ?_) (fun hb => ?_) | refine wd_nwant _ (fun hb => ?_) (fun hb => ?_) | refine wm_nwant _ (fun hb => ?_) (fun hb => ?_) | refine wd_want _ (fun hb => ?_) (fun hb => ?_) | refine wm_want _ (fun hb => ?_) (fun hb => ?_) | refine wt_nwant _ (fun hb => ?_) (fun hb => ?_) | refine wt_want _ (fun hb => ?_) (fun hb => ?_)) <;> (simp only [go_sem, hb, int_bne])) | (refine wm_done ?_; (simp only [go_sem, int_bne])) | (refine wt_done ?_; (simp only [go_sem, int_bne])) | (refine wg_run ?_; (simp only [go_sem, int_bne])) | (refine wt_fork (by (simp only [go_sem]); first | done | rfl) ?_ ?_ <;> (simp only [go_sem, int_bne]))) | (first | (refine wl_next (wg_run ?_); (simp only [go_sem])) | refine wd_rounds 6 ?_) | ((first | refine wd_mix 6 [] follows (by decide +kernel) (by (simp only [go_sem]); first | done | rfl) ?_ | refine wd_mix 5 [] follows (by decide +kernel) (by (simp only [go_sem]); first | done | rfl) ?_ | refine wd_mix 4 [] follows (by decide +kernel) (by (simp only [go_sem]); first | done | rfl) ?_ | refine wd_mix 3 [] follows (by decide +kernel) (by (simp only [go_sem]); first | done | rfl) ?_ | refine wd_mix 2 [] follows (by decide +kernel) (by (simp only [go_sem]); first | done | rfl) ?_ | refine wd_mix 1 [] follows (by decide +kernel) (by (simp only [go_sem]); first | done | rfl) ?_ | refine wd_mix 0 [] follows (by decide +kernel) (by (simp only [go_sem]); first | done | rfl) ?_ | fail); (simp only [go_sem, int_bne])) | (first | refine wd_fn (by (simp only [go_sem]); first | done | rfl) (va) ?_ | refine wm_fn (by (simp only [go_sem]); first | done | rfl) (va) (by (simp only [go_sem]); first | done | rfl) (by (simp only [go_sem]); first | done | rfl) ?_ | refine wt_fn (by (simp only [go_sem]); first | done | rfl) (va) (by (simp only [go_sem]); first | done | rfl) (by (simp only [go_sem]); first | done | rfl) ?_); (simp only [go_sem]) | (first | refine wd_fn (by (simp only [go_sem]); first | done | rfl) (vb) ?_ | refine wm_fn (by (simp only [go_sem]); first | done | rfl) (vb) (by (simp only [go_sem]); first | done | rfl) (by (simp only [go_sem]); first | done | rfl) ?_ | refine wt_fn (by (simp only [go_sem]); first | done | rfl) (vb) (by (simp only [go_sem]); first | done | rfl) (by (simp only [go_sem]); first | done | rfl) ?_); (simp only [go_sem]) | (first | refine wd_fn (by (simp only [go_sem]); first | done | rfl) (hr) ?_ | refine wm_fn (by (simp only [go_sem]); first | done | rfl) (hr) (by (simp only [go_sem]); first | done | rfl) (by (simp only [go_sem]); first | done | rfl) ?_ | refine wt_fn (by (simp only [go_sem]); first | done | rfl) (hr) (by (simp only [go_sem]); first | done | rfl) (by (simp only [go_sem]); first | done | rfl) ?_); (simp only [go_sem]) | fail)
        all_goals (refine hR _ ?_; refine ret_at [] (by (simp only [go_sem]); first | done | rfl) (by (simp only [go_sem]); first | done | rfl) ⟨rfl, rfl⟩)
  | pair a b iha ihb =>
    intro hw hn hv hz
    have hr := sReduce (.pair a b) hw hz rfl
    simp only [E.wf, E.noA, Bool.and_eq_true] at hw hn
    simp only [E.tm, nd, Tm.size, Tm.sizes] at hz
    have va := sIsVal a hw.1
    have vb := sIsVal b hw.2
    rw [E.val_tm] at va vb
    simp only [E.step]
    cases ea : a.val
    · rw [ea] at va
      have h1 := iha hw.1 hn.1 ea (by omega)
      cases es : a.step
      all_goals
        rw [es] at h1
        simp only [SR.map, srS, SR.tm, SR.code, SR.lab] at h1 ⊢
        simp only [E.tm, nd]
        refine fn_in ?_; refine acl_in Try.func72 rfl isfn_72 (Nat.le_of_ble_eq_true rfl) (fun R hR => ?_); rw [Try.results72] at hR; refine wg_run ?_; (simp only [Try.f72, go_sem])
        repeat' (first | (first | (simp only [go_sem, int_bne]) | ((first | refine wd_split _ (fun hb => ?_) (fun hb => ?_) | refine wd_nwant _ (fun hb => ?_) (fun hb => ?_) | refine wm_nwant _ (fun hb => ?_) (fun hb => ?_) | refine wd_want _ (fun hb => ?_) (fun hb => ?_) | refine wm_want _ (fun hb => ?_) (fun hb => ?_) | refine wt_nwant _ (fun hb => ?_) (fun hb => ?_) | refine wt_want _ (fun hb => ?_) (fun hb => ?_)) <;> (simp only [go_sem, hb, int_bne])) | (refine wm_done ?_; (simp only [go_sem, int_bne])) | (refine wt_done ?_; (simp only [go_sem, int_bne])) | (refine wg_run ?_; (simp only [go_sem, int_bne])) | (refine wt_fork (by (simp only [go_sem]); first | done | rfl) ?_ ?_ <;> (simp only [go_sem, int_bne]))) | (first | (refine wl_next (wg_run ?_); (simp only [go_sem])) | refine wd_rounds 6 ?_) | ((first | refine wd_mix 6 [] follows (by decide +kernel) (by (simp only [go_sem]); first | done | rfl) ?_ | refine wd_mix 5 [] follows (by decide +kernel) (by (simp only [go_sem]); first | done | rfl) ?_ | refine wd_mix 4 [] follows (by decide +kernel) (by (simp only [go_sem]); first | done | rfl) ?_ | refine wd_mix 3 [] follows (by decide +kernel) (by (simp only [go_sem]); first | done | rfl) ?_ | refine wd_mix 2 [] follows (by decide +kernel) (by (simp only [go_sem]); first | done | rfl) ?_ | refine wd_mix 1 [] follows (by decide +kernel) (by (simp only [go_sem]); first | done | rfl) ?_ | refine wd_mix 0 [] follows (by decide +kernel) (by (simp only [go_sem]); first | done | rfl) ?_ | fail); (simp only [go_sem, int_bne])) | (first | refine wd_fn (by (simp only [go_sem]); first | done | rfl) (va) ?_ | refine wm_fn (by (simp only [go_sem]); first | done | rfl) (va) (by (simp only [go_sem]); first | done | rfl) (by (simp only [go_sem]); first | done | rfl) ?_ | refine wt_fn (by (simp only [go_sem]); first | done | rfl) (va) (by (simp only [go_sem]); first | done | rfl) (by (simp only [go_sem]); first | done | rfl) ?_); (simp only [go_sem]) | (first | refine wd_fn (by (simp only [go_sem]); first | done | rfl) (h1) ?_ | refine wm_fn (by (simp only [go_sem]); first | done | rfl) (h1) (by (simp only [go_sem]); first | done | rfl) (by (simp only [go_sem]); first | done | rfl) ?_ | refine wt_fn (by (simp only [go_sem]); first | done | rfl) (h1) (by (simp only [go_sem]); first | done | rfl) (by (simp only [go_sem]); first | done | rfl) ?_); (simp only [go_sem]) | fail)
        all_goals (refine hR _ ?_; refine ret_at [] (by (simp only [go_sem]); first | done | rfl) (by (simp only [go_sem]); first | done | rfl) ⟨rfl, rfl⟩)
    · rw [ea] at va
      simp only []
      cases eb : b.val
      · rw [eb] at vb
        have h1 := ihb hw.2 hn.2 eb (by omega)
        cases es : b.step
        all_goals
          rw [es] at h1
          simp only [SR.map, srS, SR.tm, SR.code, SR.lab] at h1 ⊢
          simp only [E.tm, nd]
          refine fn_in ?_; refine acl_in Try.func72 rfl isfn_72 (Nat.le_of_ble_eq_true rfl) (fun R hR => ?_); rw [Try.results72] at hR; refine wg_run ?_; (simp only [Try.f72, go_sem])
          repeat' (first | (first | (simp only [go_sem, int_bne]) | ((first | refine wd_split _ (fun hb => ?_) (fun hb => ?_) | refine wd_nwant _ (fun hb => ?_) (fun hb => ?_) | refine wm_nwant _ (fun hb => ?_) (fun hb => ?_) | refine wd_want _ (fun hb => ?_) (fun hb => ?_) | refine wm_want _ (fun hb => ?_) (fun hb => ?_) | refine wt_nwant _ (fun hb => ?_) (fun hb => ?_) | refine wt_want _ (fun hb => ?_) (fun hb => ?_)) <;> (simp only [go_sem, hb, int_bne])) | (refine wm_done ?_; (simp only [go_sem, int_bne])) | (refine wt_done ?_; (simp only [go_sem, int_bne])) | (refine wg_run ?_; (simp only [go_sem, int_bne])) | (refine wt_fork (by (simp only [go_sem]); first | done | rfl) ?_ ?_ <;> (simp only [go_sem, int_bne]))) | (first | (refine wl_next (wg_run ?_); (simp only [go_sem])) | refine wd_rounds 6 ?_) | ((first | refine wd_mix 6 [] follows (by decide +kernel) (by (simp only [go_sem]); first | done | rfl) ?_ | refine wd_mix 5 [] follows (by decide +kernel) (by (simp only [go_sem]); first | done | rfl) ?_ | refine wd_mix 4 [] follows (by decide +kernel) (by (simp only [go_sem]); first | done | rfl) ?_ | refine wd_mix 3 [] follows (by decide +kernel) (by (simp only [go_sem]); first | done | rfl) ?_ | refine wd_mix 2 [] follows (by decide +kernel) (by (simp only [go_sem]); first | done | rfl) ?_ | refine wd_mix 1 [] follows (by decide +kernel) (by (simp only [go_sem]); first | done | rfl) ?_ | refine wd_mix 0 [] follows (by decide +kernel) (by (simp only [go_sem]); first | done | rfl) ?_ | fail); (simp only [go_sem, int_bne])) | (first | refine wd_fn (by (simp only [go_sem]); first | done | rfl) (va) ?_ | refine wm_fn (by (simp only [go_sem]); first | done | rfl) (va) (by (simp only [go_sem]); first | done | rfl) (by (simp only [go_sem]); first | done | rfl) ?_ | refine wt_fn (by (simp only [go_sem]); first | done | rfl) (va) (by (simp only [go_sem]); first | done | rfl) (by (simp only [go_sem]); first | done | rfl) ?_); (simp only [go_sem]) | (first | refine wd_fn (by (simp only [go_sem]); first | done | rfl) (vb) ?_ | refine wm_fn (by (simp only [go_sem]); first | done | rfl) (vb) (by (simp only [go_sem]); first | done | rfl) (by (simp only [go_sem]); first | done | rfl) ?_ | refine wt_fn (by (simp only [go_sem]); first | done | rfl) (vb) (by (simp only [go_sem]); first | done | rfl) (by (simp only [go_sem]); first | done | rfl) ?_); (simp only [go_sem]) | (first | refine wd_fn (by (simp only [go_sem]); first | done | rfl) (h1) ?_ | refine wm_fn (by (simp only [go_sem]); first | done | rfl) (h1) (by (simp only [go_sem]); first | done | rfl) (by (simp only [go_sem]); first | done | rfl) ?_ | refine wt_fn (by (simp only [go_sem]); first | done | rfl) (h1) (by (simp only [go_sem]); first | done | rfl) (by (simp only [go_sem]); first | done | rfl) ?_); (simp only [go_sem]) | fail)
          all_goals (refine hR _ ?_; refine ret_at [] (by (simp only [go_sem]); first | done | rfl) (by (simp only [go_sem]); first | done | rfl) ⟨rfl, rfl⟩)
      · simp [E.val, ea, eb] at hv
  | fst a ih =>
    intro hw hn hv hz
    have hr := sReduce (.fst a) hw hz rfl
    simp only [E.wf, E.noA, Bool.and_eq_true] at hw hn
    simp only [E.tm, nd, Tm.size, Tm.sizes] at hz
    have va := sIsVal a hw
    rw [E.val_tm] at va
    simp only [E.step]
    cases ea : a.val
    · rw [ea] at va
      have h1 := ih hw hn ea (by omega)
      cases es : a.step
      all_goals
        rw [es] at h1
        simp only [SR.map, srS, SR.tm, SR.code, SR.lab] at h1 ⊢
        simp only [E.tm, nd]
        refine fn_in ?_; refine acl_in Try.func72 rfl isfn_72 (Nat.le_of_ble_eq_true rfl) (fun R hR => ?_); rw [Try.results72] at hR; refine wg_run ?_; (simp only [Try.f72, go_sem])
        repeat' (first | (first | (simp only [go_sem, int_bne]) | ((first | refine wd_split _ (fun hb => ?_) (fun hb => ?_) | refine wd_nwant _ (fun hb => ?_) (fun hb => ?_) | refine wm_nwant _ (fun hb => ?_) (fun hb => ?_) | refine wd_want _ (fun hb => ?_) (fun hb => ?_) | refine wm_want _ (fun hb => ?_) (fun hb => ?_) | refine wt_nwant _ (fun hb => ?_) (fun hb => ?_) | refine wt_want _ (fun hb => ?_) (fun hb => ?_)) <;> (simp only [go_sem, hb, int_bne])) | (refine wm_done ?_; (simp only [go_sem, int_bne])) | (refine wt_done ?_; (simp only [go_sem, int_bne])) | (refine wg_run ?_; (simp only [go_sem, int_bne])) | (refine wt_fork (by (simp only [go_sem]); first | done | rfl) ?_ ?_ <;> (simp only [go_sem, int_bne]))) | (first | (refine wl_next (wg_run ?_); (simp only [go_sem])) | refine wd_rounds 6 ?_) | ((first | refine wd_mix 6 [] follows (by decide +kernel) (by (simp only [go_sem]); first | done | rfl) ?_ | refine wd_mix 5 [] follows (by decide +kernel) (by (simp only [go_sem]); first | done | rfl) ?_ | refine wd_mix 4 [] follows (by decide +kernel) (by (simp only [go_sem]); first | done | rfl) ?_ | refine wd_mix 3 [] follows (by decide +kernel) (by (simp only [go_sem]); first | done | rfl) ?_ | refine wd_mix 2 [] follows (by decide +kernel) (by (simp only [go_sem]); first | done | rfl) ?_ | refine wd_mix 1 [] follows (by decide +kernel) (by (simp only [go_sem]); first | done | rfl) ?_ | refine wd_mix 0 [] follows (by decide +kernel) (by (simp only [go_sem]); first | done | rfl) ?_ | fail); (simp only [go_sem, int_bne])) | (first | refine wd_fn (by (simp only [go_sem]); first | done | rfl) (va) ?_ | refine wm_fn (by (simp only [go_sem]); first | done | rfl) (va) (by (simp only [go_sem]); first | done | rfl) (by (simp only [go_sem]); first | done | rfl) ?_ | refine wt_fn (by (simp only [go_sem]); first | done | rfl) (va) (by (simp only [go_sem]); first | done | rfl) (by (simp only [go_sem]); first | done | rfl) ?_); (simp only [go_sem]) | (first | refine wd_fn (by (simp only [go_sem]); first | done | rfl) (h1) ?_ | refine wm_fn (by (simp only [go_sem]); first | done | rfl) (h1) (by (simp only [go_sem]); first | done | rfl) (by (simp only [go_sem]); first | done | rfl) ?_ | refine wt_fn (by (simp only [go_sem]); first | done | rfl) (h1) (by (simp only [go_sem]); first | done | rfl) (by (simp only [go_sem]); first | done | rfl) ?_); (simp only [go_sem]) | fail)
        all_goals (refine hR _ ?_; refine ret_at [] (by (simp only [go_sem]); first | done | rfl) (by (simp only [go_sem]); first | done | rfl) ⟨rfl, rfl⟩)
    · rw [ea] at va
      rw [red_fst] at hr
      simp only []
      simp only [E.tm, nd] at hr ⊢
      unfold srS at hr ⊢
      refine fn_in ?_; refine acl_in Try.func72 rfl isfn_72 (Nat.le_of_ble_eq_true rfl) (fun R hR => ?_); rw [Try.results72] at hR; refine wg_run ?_; (simp only [Try.f72, go_sem])
      repeat' (first | (first | (simp only [go_sem, int_bne]) | ((first | refine wd_split _ (fun hb => ?_) (fun hb => ?_) | refine wd_nwant _ (fun hb => ?_) (fun hb => ?_) | refine wm_nwant _ (fun hb => ?_) (fun hb => ?_) | refine wd_want _ (fun hb => ?_) (fun hb => ?_) | refine wm_want _ (fun hb => ?_) (fun hb => ?_) | refine wt_nwant _ (fun hb => ?_) (fun hb => ?_) | refine wt_want _ (fun hb => ?_) (fun hb => ?_)) <;> (simp only [go_sem, hb, int_bne])) | (refine wm_done ?_; (simp only [go_sem, int_bne])) | (refine wt_done ?_; (simp only [go_sem, int_bne])) | (refine wg_run ?_; (simp only [go_sem, int_bne])) | (refine wt_fork (by (simp only [go_sem]); first | done | rfl) ?_ ?_ <;> (simp only [go_sem, int_bne]))) | (first | (refine wl_next (wg_run ?_); (simp only [go_sem])) | refine wd_rounds 6 ?_) | ((first | refine wd_mix 6 [] follows (by decide +kernel) (by (simp only [go_sem]); first | done | rfl) ?_ | refine wd_mix 5 [] follows (by decide +kernel) (by (simp only [go_sem]); first | done | rfl) ?_ | refine wd_mix 4 [] follows (by decide +kernel) (by (simp only [go_sem]); first | done | rfl) ?_ | refine wd_mix 3 [] follows (by decide +kernel) (by (simp only [go_sem]); first | done | rfl) ?_ | refine wd_mix 2 [] follows (by decide +kernel) (by (simp only [go_sem]); first | done | rfl) ?_ | refine wd_mix 1 [] follows (by decide +kernel) (by (simp only [go_sem]); first | done | rfl) ?_ | refine wd_mix 0 [] follows (by decide +kernel) (by (simp only [go_sem]); first | done | rfl) ?_ | fail); (simp only [go_sem, int_bne])) | (first | refine wd_fn (by (simp only [go_sem]); first | done | rfl) (va) ?_ | refine wm_fn (by (simp only [go_sem]); first | done | rfl) (va) (by (simp only [go_sem]); first | done | rfl) (by (simp only [go_sem]); first | done | rfl) ?_ | refine wt_fn (by (simp only [go_sem]); first | done | rfl) (va) (by (simp only [go_sem]); first | done | rfl) (by (simp only [go_sem]); first | done | rfl) ?_); (simp only [go_sem]) | (first | refine wd_fn (by (simp only [go_sem]); first | done | rfl) (hr) ?_ | refine wm_fn (by (simp only [go_sem]); first | done | rfl) (hr) (by (simp only [go_sem]); first | done | rfl) (by (simp only [go_sem]); first | done | rfl) ?_ | refine wt_fn (by (simp only [go_sem]); first | done | rfl) (hr) (by (simp only [go_sem]); first | done | rfl) (by (simp only [go_sem]); first | done | rfl) ?_); (simp only [go_sem]) | fail)
      all_goals (refine hR _ ?_; refine ret_at [] (by (simp only [go_sem]); first | done | rfl) (by (simp only [go_sem]); first | done | rfl) ⟨rfl, rfl⟩)
  | snd a ih =>
    intro hw hn hv hz
    have hr := sReduce (.snd a) hw hz rfl
    simp only [E.wf, E.noA, Bool.and_eq_true] at hw hn
    simp only [E.tm, nd, Tm.size, Tm.sizes] at hz
    have va := sIsVal a hw
    rw [E.val_tm] at va
    simp only [E.step]
    cases ea : a.val
    · rw [ea] at va
      have h1 := ih hw hn ea (by omega)
      cases es : a.step
      all_goals
        rw [es] at h1
        simp only [SR.map, srS, SR.tm, SR.code, SR.lab] at h1 ⊢
        simp only [E.tm, nd]
        refine fn_in ?_; refine acl_in Try.func72 rfl isfn_72 (Nat.le_of_ble_eq_true rfl) (fun R hR => ?_); rw [Try.results72] at hR; refine wg_run ?_; (simp only [Try.f72, go_sem])
        repeat' (first | (first | (simp only [go_sem, int_bne]) | ((first | refine wd_split _ (fun hb => ?_) (fun hb => ?_) | refine wd_nwant _ (fun hb => ?_) (fun hb => ?_) | refine wm_nwant _ (fun hb => ?_) (fun hb => ?_) | refine wd_want _ (fun hb => ?_) (fun hb => ?_) | refine wm_want _ (fun hb => ?_) (fun hb => ?_) | refine wt_nwant _ (fun hb => ?_) (fun hb => ?_) | refine wt_want _ (fun hb => ?_) (fun hb => ?_)) <;> (simp only [go_sem, hb, int_bne])) | (refine wm_done ?_; (simp only [go_sem, int_bne])) | (refine wt_done ?_; (simp only [go_sem, int_bne])) | (refine wg_run ?_; (simp only [go_sem, int_bne])) | (refine wt_fork (by (simp only [go_sem]); first | done | rfl) ?_ ?_ <;> (simp only [go_sem, int_bne]))) | (first | (refine wl_next (wg_run ?_); (simp only [go_sem])) | refine wd_rounds 6 ?_) | ((first | refine wd_mix 6 [] follows (by decide +kernel) (by (simp only [go_sem]); first | done | rfl) ?_ | refine wd_mix 5 [] follows (by decide +kernel) (by (simp only [go_sem]); first | done | rfl) ?_ | refine wd_mix 4 [] follows (by decide +kernel) (by (simp only [go_sem]); first | done | rfl) ?_ | refine wd_mix 3 [] follows (by decide +kernel) (by (simp only [go_sem]); first | done | rfl) ?_ | refine wd_mix 2 [] follows (by decide +kernel) (by (simp only [go_sem]); first | done | rfl) ?_ | refine wd_mix 1 [] follows (by decide +kernel) (by (simp only [go_sem]); first | done | rfl) ?_ | refine wd_mix 0 [] follows (by decide +kernel) (by (simp only [go_sem]); first | done | rfl) ?_ | fail); (simp only [go_sem, int_bne])) | (first | refine wd_fn (by (simp only [go_sem]); first | done | rfl) (va) ?_ | refine wm_fn (by (simp only [go_sem]); first | done | rfl) (va) (by (simp only [go_sem]); first | done | rfl) (by (simp only [go_sem]); first | done | rfl) ?_ | refine wt_fn (by (simp only [go_sem]); first | done | rfl) (va) (by (simp only [go_sem]); first | done | rfl) (by (simp only [go_sem]); first | done | rfl) ?_); (simp only [go_sem]) | (first | refine wd_fn (by (simp only [go_sem]); first | done | rfl) (h1) ?_ | refine wm_fn (by (simp only [go_sem]); first | done | rfl) (h1) (by (simp only [go_sem]); first | done | rfl) (by (simp only [go_sem]); first | done | rfl) ?_ | refine wt_fn (by (simp only [go_sem]); first | done | rfl) (h1) (by (simp only [go_sem]); first | done | rfl) (by (simp only [go_sem]); first | done | rfl) ?_); (simp only [go_sem]) | fail)
        all_goals (refine hR _ ?_; refine ret_at [] (by (simp only [go_sem]); first | done | rfl) (by (simp only [go_sem]); first | done | rfl) ⟨rfl, rfl⟩)
    · rw [ea] at va
      rw [red_snd] at hr
      simp only []
      simp only [E.tm, nd] at hr ⊢
      unfold srS at hr ⊢
      refine fn_in ?_; refine acl_in Try.func72 rfl isfn_72 (Nat.le_of_ble_eq_true rfl) (fun R hR => ?_); rw [Try.results72] at hR; refine wg_run ?_; (simp only [Try.f72, go_sem])
      repeat' (first | (first | (simp only [go_sem, int_bne]) | ((first | refine wd_split _ (fun hb => ?_) (fun hb => ?_) | refine wd_nwant _ (fun hb => ?_) (fun hb => ?_) | refine wm_nwant _ (fun hb => ?_) (fun hb => ?_) | refine wd_want _ (fun hb => ?_) (fun hb => ?_) | refine wm_want _ (fun hb => ?_) (fun hb => ?_) | refine wt_nwant _ (fun hb => ?_) (fun hb => ?_) | refine wt_want _ (fun hb => ?_) (fun hb => ?_)) <;> (simp only [go_sem, hb, int_bne])) | (refine wm_done ?_; (simp only [go_sem, int_bne])) | (refine wt_done ?_; (simp only [go_sem, int_bne])) | (refine wg_run ?_; (simp only [go_sem, int_bne])) | (refine wt_fork (by (simp only [go_sem]); first | done | rfl) ?_ ?_ <;> (simp only [go_sem, int_bne]))) | (first | (refine wl_next (wg_run ?_); (simp only [go_sem])) | refine wd_rounds 6 ?_) | ((first | refine wd_mix 6 [] follows (by decide +kernel) (by (simp only [go_sem]); first | done | rfl) ?_ | refine wd_mix 5 [] follows (by decide +kernel) (by (simp only [go_sem]); first | done | rfl) ?_ | refine wd_mix 4 [] follows (by decide +kernel) (by (simp only [go_sem]); first | done | rfl) ?_ | refine wd_mix 3 [] follows (by decide +kernel) (by (simp only [go_sem]); first | done | rfl) ?_ | refine wd_mix 2 [] follows (by decide +kernel) (by (simp only [go_sem]); first | done | rfl) ?_ | refine wd_mix 1 [] follows (by decide +kernel) (by (simp only [go_sem]); first | done | rfl) ?_ | refine wd_mix 0 [] follows (by decide +kernel) (by (simp only [go_sem]); first | done | rfl) ?_ | fail); (simp only [go_sem, int_bne])) | (first | refine wd_fn (by (simp only [go_sem]); first | done | rfl) (va) ?_ | refine wm_fn (by (simp only [go_sem]); first | done | rfl) (va) (by (simp only [go_sem]); first | done | rfl) (by (simp only [go_sem]); first | done | rfl) ?_ | refine wt_fn (by (simp only [go_sem]); first | done | rfl) (va) (by (simp only [go_sem]); first | done | rfl) (by (simp only [go_sem]); first | done | rfl) ?_); (simp only [go_sem]) | (first | refine wd_fn (by (simp only [go_sem]); first | done | rfl) (hr) ?_ | refine wm_fn (by (simp only [go_sem]); first | done | rfl) (hr) (by (simp only [go_sem]); first | done | rfl) (by (simp only [go_sem]); first | done | rfl) ?_ | refine wt_fn (by (simp only [go_sem]); first | done | rfl) (hr) (by (simp only [go_sem]); first | done | rfl) (by (simp only [go_sem]); first | done | rfl) ?_); (simp only [go_sem]) | fail)
      all_goals (refine hR _ ?_; refine ret_at [] (by (simp only [go_sem]); first | done | rfl) (by (simp only [go_sem]); first | done | rfl) ⟨rfl, rfl⟩)
  | cast s t l a ih =>
    intro hw hn hv hz
    have hr := sReduce (.cast s t l a) hw hz rfl
    simp only [E.wf, E.noA, Bool.and_eq_true] at hw hn
    simp only [E.tm, nd, Tm.size, Tm.sizes] at hz
    have va := sIsVal a hw.2.2.2
    rw [E.val_tm] at va
    simp only [E.step]
    cases ea : a.val
    · rw [ea] at va
      have h1 := ih hw.2.2.2 hn ea (by omega)
      cases es : a.step
      all_goals
        rw [es] at h1
        simp only [SR.map, srS, SR.tm, SR.code, SR.lab] at h1 ⊢
        simp only [E.tm, nd]
        refine fn_in ?_; refine acl_in Try.func72 rfl isfn_72 (Nat.le_of_ble_eq_true rfl) (fun R hR => ?_); rw [Try.results72] at hR; refine wg_run ?_; (simp only [Try.f72, go_sem])
        repeat' (first | (first | (simp only [go_sem, int_bne]) | ((first | refine wd_split _ (fun hb => ?_) (fun hb => ?_) | refine wd_nwant _ (fun hb => ?_) (fun hb => ?_) | refine wm_nwant _ (fun hb => ?_) (fun hb => ?_) | refine wd_want _ (fun hb => ?_) (fun hb => ?_) | refine wm_want _ (fun hb => ?_) (fun hb => ?_) | refine wt_nwant _ (fun hb => ?_) (fun hb => ?_) | refine wt_want _ (fun hb => ?_) (fun hb => ?_)) <;> (simp only [go_sem, hb, int_bne])) | (refine wm_done ?_; (simp only [go_sem, int_bne])) | (refine wt_done ?_; (simp only [go_sem, int_bne])) | (refine wg_run ?_; (simp only [go_sem, int_bne])) | (refine wt_fork (by (simp only [go_sem]); first | done | rfl) ?_ ?_ <;> (simp only [go_sem, int_bne]))) | (first | (refine wl_next (wg_run ?_); (simp only [go_sem])) | refine wd_rounds 6 ?_) | ((first | refine wd_mix 6 [] follows (by decide +kernel) (by (simp only [go_sem]); first | done | rfl) ?_ | refine wd_mix 5 [] follows (by decide +kernel) (by (simp only [go_sem]); first | done | rfl) ?_ | refine wd_mix 4 [] follows (by decide +kernel) (by (simp only [go_sem]); first | done | rfl) ?_ | refine wd_mix 3 [] follows (by decide +kernel) (by (simp only [go_sem]); first | done | rfl) ?_ | refine wd_mix 2 [] follows (by decide +kernel) (by (simp only [go_sem]); first | done | rfl) ?_ | refine wd_mix 1 [] follows (by decide +kernel) (by (simp only [go_sem]); first | done | rfl) ?_ | refine wd_mix 0 [] follows (by decide +kernel) (by (simp only [go_sem]); first | done | rfl) ?_ | fail); (simp only [go_sem, int_bne])) | (first | refine wd_fn (by (simp only [go_sem]); first | done | rfl) (va) ?_ | refine wm_fn (by (simp only [go_sem]); first | done | rfl) (va) (by (simp only [go_sem]); first | done | rfl) (by (simp only [go_sem]); first | done | rfl) ?_ | refine wt_fn (by (simp only [go_sem]); first | done | rfl) (va) (by (simp only [go_sem]); first | done | rfl) (by (simp only [go_sem]); first | done | rfl) ?_); (simp only [go_sem]) | (first | refine wd_fn (by (simp only [go_sem]); first | done | rfl) (h1) ?_ | refine wm_fn (by (simp only [go_sem]); first | done | rfl) (h1) (by (simp only [go_sem]); first | done | rfl) (by (simp only [go_sem]); first | done | rfl) ?_ | refine wt_fn (by (simp only [go_sem]); first | done | rfl) (h1) (by (simp only [go_sem]); first | done | rfl) (by (simp only [go_sem]); first | done | rfl) ?_); (simp only [go_sem]) | fail)
        all_goals (refine hR _ ?_; refine ret_at [] (by (simp only [go_sem]); first | done | rfl) (by (simp only [go_sem]); first | done | rfl) ⟨rfl, rfl⟩)
    · rw [ea] at va
      rw [red_cast] at hr
      simp only []
      simp only [E.tm, nd] at hr ⊢
      unfold srS at hr ⊢
      refine fn_in ?_; refine acl_in Try.func72 rfl isfn_72 (Nat.le_of_ble_eq_true rfl) (fun R hR => ?_); rw [Try.results72] at hR; refine wg_run ?_; (simp only [Try.f72, go_sem])
      repeat' (first | (first | (simp only [go_sem, int_bne]) | ((first | refine wd_split _ (fun hb => ?_) (fun hb => ?_) | refine wd_nwant _ (fun hb => ?_) (fun hb => ?_) | refine wm_nwant _ (fun hb => ?_) (fun hb => ?_) | refine wd_want _ (fun hb => ?_) (fun hb => ?_) | refine wm_want _ (fun hb => ?_) (fun hb => ?_) | refine wt_nwant _ (fun hb => ?_) (fun hb => ?_) | refine wt_want _ (fun hb => ?_) (fun hb => ?_)) <;> (simp only [go_sem, hb, int_bne])) | (refine wm_done ?_; (simp only [go_sem, int_bne])) | (refine wt_done ?_; (simp only [go_sem, int_bne])) | (refine wg_run ?_; (simp only [go_sem, int_bne])) | (refine wt_fork (by (simp only [go_sem]); first | done | rfl) ?_ ?_ <;> (simp only [go_sem, int_bne]))) | (first | (refine wl_next (wg_run ?_); (simp only [go_sem])) | refine wd_rounds 6 ?_) | ((first | refine wd_mix 6 [] follows (by decide +kernel) (by (simp only [go_sem]); first | done | rfl) ?_ | refine wd_mix 5 [] follows (by decide +kernel) (by (simp only [go_sem]); first | done | rfl) ?_ | refine wd_mix 4 [] follows (by decide +kernel) (by (simp only [go_sem]); first | done | rfl) ?_ | refine wd_mix 3 [] follows (by decide +kernel) (by (simp only [go_sem]); first | done | rfl) ?_ | refine wd_mix 2 [] follows (by decide +kernel) (by (simp only [go_sem]); first | done | rfl) ?_ | refine wd_mix 1 [] follows (by decide +kernel) (by (simp only [go_sem]); first | done | rfl) ?_ | refine wd_mix 0 [] follows (by decide +kernel) (by (simp only [go_sem]); first | done | rfl) ?_ | fail); (simp only [go_sem, int_bne])) | (first | refine wd_fn (by (simp only [go_sem]); first | done | rfl) (va) ?_ | refine wm_fn (by (simp only [go_sem]); first | done | rfl) (va) (by (simp only [go_sem]); first | done | rfl) (by (simp only [go_sem]); first | done | rfl) ?_ | refine wt_fn (by (simp only [go_sem]); first | done | rfl) (va) (by (simp only [go_sem]); first | done | rfl) (by (simp only [go_sem]); first | done | rfl) ?_); (simp only [go_sem]) | (first | refine wd_fn (by (simp only [go_sem]); first | done | rfl) (hr) ?_ | refine wm_fn (by (simp only [go_sem]); first | done | rfl) (hr) (by (simp only [go_sem]); first | done | rfl) (by (simp only [go_sem]); first | done | rfl) ?_ | refine wt_fn (by (simp only [go_sem]); first | done | rfl) (hr) (by (simp only [go_sem]); first | done | rfl) (by (simp only [go_sem]); first | done | rfl) ?_); (simp only [go_sem]) | fail)
      all_goals (refine hR _ ?_; refine ret_at [] (by (simp only [go_sem]); first | done | rfl) (by (simp only [go_sem]); first | done | rfl) ⟨rfl, rfl⟩)
  | ite a b c iha ihb ihc =>
    intro hw hn hv hz
    simp only [E.wf, E.noA, Bool.and_eq_true] at hw hn
    simp only [E.tm, nd, Tm.size, Tm.sizes] at hz
    have va := sIsVal a hw.1
    rw [E.val_tm] at va
    simp only [E.step]
    cases ea : a.val
    · rw [ea] at va
      have h1 := iha hw.1 hn.1 ea (by omega)
      cases es : a.step
      all_goals
        rw [es] at h1
        simp only [SR.map, srS, SR.tm, SR.code, SR.lab] at h1 ⊢
        simp only [E.tm, nd]
        refine fn_in ?_; refine acl_in Try.func72 rfl isfn_72 (Nat.le_of_ble_eq_true rfl) (fun R hR => ?_); rw [Try.results72] at hR; refine wg_run ?_; (simp only [Try.f72, go_sem])
        repeat' (first | (first | (simp only [go_sem, int_bne]) | ((first | refine wd_split _ (fun hb => ?_) (fun hb => ?_) | refine wd_nwant _ (fun hb => ?_) (fun hb => ?_) | refine wm_nwant _ (fun hb => ?_) (fun hb => ?_) | refine wd_want _ (fun hb => ?_) (fun hb => ?_) | refine wm_want _ (fun hb => ?_) (fun hb => ?_) | refine wt_nwant _ (fun hb => ?_) (fun hb => ?_) | refine wt_want _ (fun hb => ?_) (fun hb => ?_)) <;> (simp only [go_sem, hb, int_bne])) | (refine wm_done ?_; (simp only [go_sem, int_bne])) | (refine wt_done ?_; (simp only [go_sem, int_bne])) | (refine wg_run ?_; (simp only [go_sem, int_bne])) | (refine wt_fork (by (simp only [go_sem]); first | done | rfl) ?_ ?_ <;> (simp only [go_sem, int_bne]))) | (first | (refine wl_next (wg_run ?_); (simp only [go_sem])) | refine wd_rounds 6 ?_) | ((first | refine wd_mix 6 [] follows (by decide +kernel) (by (simp only [go_sem]); first | done | rfl) ?_ | refine wd_mix 5 [] follows (by decide +kernel) (by (simp only [go_sem]); first | done | rfl) ?_ | refine wd_mix 4 [] follows (by decide +kernel) (by (simp only [go_sem]); first | done | rfl) ?_ | refine wd_mix 3 [] follows (by decide +kernel) (by (simp only [go_sem]); first | done | rfl) ?_ | refine wd_mix 2 [] follows (by decide +kernel) (by (simp only [go_sem]); first | done | rfl) ?_ | refine wd_mix 1 [] follows (by decide +kernel) (by (simp only [go_sem]); first | done | rfl) ?_ | refine wd_mix 0 [] follows (by decide +kernel) (by (simp only [go_sem]); first | done | rfl) ?_ | fail); (simp only [go_sem, int_bne])) | (first | refine wd_fn (by (simp only [go_sem]); first | done | rfl) (va) ?_ | refine wm_fn (by (simp only [go_sem]); first | done | rfl) (va) (by (simp only [go_sem]); first | done | rfl) (by (simp only [go_sem]); first | done | rfl) ?_ | refine wt_fn (by (simp only [go_sem]); first | done | rfl) (va) (by (simp only [go_sem]); first | done | rfl) (by (simp only [go_sem]); first | done | rfl) ?_); (simp only [go_sem]) | (first | refine wd_fn (by (simp only [go_sem]); first | done | rfl) (h1) ?_ | refine wm_fn (by (simp only [go_sem]); first | done | rfl) (h1) (by (simp only [go_sem]); first | done | rfl) (by (simp only [go_sem]); first | done | rfl) ?_ | refine wt_fn (by (simp only [go_sem]); first | done | rfl) (h1) (by (simp only [go_sem]); first | done | rfl) (by (simp only [go_sem]); first | done | rfl) ?_); (simp only [go_sem]) | fail)
        all_goals (refine hR _ ?_; refine ret_at [] (by (simp only [go_sem]); first | done | rfl) (by (simp only [go_sem]); first | done | rfl) ⟨rfl, rfl⟩)
    · rw [ea] at va
      cases a <;> simp only [E.val, Bool.false_eq_true] at ea
      all_goals
        simp only [ruleIte, srS, SR.tm, SR.code, SR.lab]
        simp only [E.tm, nd] at va ⊢
        refine fn_in ?_; refine acl_in Try.func72 rfl isfn_72 (Nat.le_of_ble_eq_true rfl) (fun R hR => ?_); rw [Try.results72] at hR; refine wg_run ?_; (simp only [Try.f72, go_sem])
        repeat' (first | (first | (simp only [go_sem, int_bne]) | ((first | refine wd_split _ (fun hb => ?_) (fun hb => ?_) | refine wd_nwant _ (fun hb => ?_) (fun hb => ?_) | refine wm_nwant _ (fun hb => ?_) (fun hb => ?_) | refine wd_want _ (fun hb => ?_) (fun hb => ?_) | refine wm_want _ (fun hb => ?_) (fun hb => ?_) | refine wt_nwant _ (fun hb => ?_) (fun hb => ?_) | refine wt_want _ (fun hb => ?_) (fun hb => ?_)) <;> (simp only [go_sem, hb, int_bne])) | (refine wm_done ?_; (simp only [go_sem, int_bne])) | (refine wt_done ?_; (simp only [go_sem, int_bne])) | (refine wg_run ?_; (simp only [go_sem, int_bne])) | (refine wt_fork (by (simp only [go_sem]); first | done | rfl) ?_ ?_ <;> (simp only [go_sem, int_bne]))) | (first | (refine wl_next (wg_run ?_); (simp only [go_sem])) | refine wd_rounds 6 ?_) | ((first | refine wd_mix 6 [] follows (by decide +kernel) (by (simp only [go_sem]); first | done | rfl) ?_ | refine wd_mix 5 [] follows (by decide +kernel) (by (simp only [go_sem]); first | done | rfl) ?_ | refine wd_mix 4 [] follows (by decide +kernel) (by (simp only [go_sem]); first | done | rfl) ?_ | refine wd_mix 3 [] follows (by decide +kernel) (by (simp only [go_sem]); first | done | rfl) ?_ | refine wd_mix 2 [] follows (by decide +kernel) (by (simp only [go_sem]); first | done | rfl) ?_ | refine wd_mix 1 [] follows (by decide +kernel) (by (simp only [go_sem]); first | done | rfl) ?_ | refine wd_mix 0 [] follows (by decide +kernel) (by (simp only [go_sem]); first | done | rfl) ?_ | fail); (simp only [go_sem, int_bne])) | (first | refine wd_fn (by (simp only [go_sem]); first | done | rfl) (va) ?_ | refine wm_fn (by (simp only [go_sem]); first | done | rfl) (va) (by (simp only [go_sem]); first | done | rfl) (by (simp only [go_sem]); first | done | rfl) ?_ | refine wt_fn (by (simp only [go_sem]); first | done | rfl) (va) (by (simp only [go_sem]); first | done | rfl) (by (simp only [go_sem]); first | done | rfl) ?_); (simp only [go_sem]) | fail)
        all_goals (refine hR _ ?_; refine ret_at [] (by (simp only [go_sem]); first | done | rfl) (by (simp only [go_sem]); first | done | rfl) ⟨rfl, rfl⟩)
  | var x =>
    intro hw hn hv hz
    have hr := sReduce (.var x) hw hz rfl
    simp only [E.step]
    simp only [E.red, E.ruleI, E.castR] at hr
    simp only [E.tm, nd] at hr ⊢
    unfold srS at hr ⊢
    refine fn_in ?_; refine acl_in Try.func72 rfl isfn_72 (Nat.le_of_ble_eq_true rfl) (fun R hR => ?_); rw [Try.results72] at hR; refine wg_run ?_; (simp only [Try.f72, go_sem])
    repeat' (first | (first | (simp only [go_sem, int_bne]) | ((first | refine wd_split _ (fun hb => ?_) (fun hb => ?_) | refine wd_nwant _ (fun hb => ?_) (fun hb => ?_) | refine wm_nwant _ (fun hb => ?_) (fun hb => ?_) | refine wd_want _ (fun hb => ?_) (fun hb => ?_) | refine wm_want _ (fun hb => ?_) (fun hb => ?_) | refine wt_nwant _ (fun hb => ?_) (fun hb => ?_) | refine wt_want _ (fun hb => ?_) (fun hb => ?_)) <;> (simp only [go_sem, hb, int_bne])) | (refine wm_done ?_; (simp only [go_sem, int_bne])) | (refine wt_done ?_; (simp only [go_sem, int_bne])) | (refine wg_run ?_; (simp only [go_sem, int_bne])) | (refine wt_fork (by (simp only [go_sem]); first | done | rfl) ?_ ?_ <;> (simp only [go_sem, int_bne]))) | (first | (refine wl_next (wg_run ?_); (simp only [go_sem])) | refine wd_rounds 6 ?_) | ((first | refine wd_mix 6 [] follows (by decide +kernel) (by (simp only [go_sem]); first | done | rfl) ?_ | refine wd_mix 5 [] follows (by decide +kernel) (by (simp only [go_sem]); first | done | rfl) ?_ | refine wd_mix 4 [] follows (by decide +kernel) (by (simp only [go_sem]); first | done | rfl) ?_ | refine wd_mix 3 [] follows (by decide +kernel) (by (simp only [go_sem]); first | done | rfl) ?_ | refine wd_mix 2 [] follows (by decide +kernel) (by (simp only [go_sem]); first | done | rfl) ?_ | refine wd_mix 1 [] follows (by decide +kernel) (by (simp only [go_sem]); first | done | rfl) ?_ | refine wd_mix 0 [] follows (by decide +kernel) (by (simp only [go_sem]); first | done | rfl) ?_ | fail); (simp only [go_sem, int_bne])) | (first | refine wd_fn (by (simp only [go_sem]); first | done | rfl) (hr) ?_ | refine wm_fn (by (simp only [go_sem]); first | done | rfl) (hr) (by (simp only [go_sem]); first | done | rfl) (by (simp only [go_sem]); first | done | rfl) ?_ | refine wt_fn (by (simp only [go_sem]); first | done | rfl) (hr) (by (simp only [go_sem]); first | done | rfl) (by (simp only [go_sem]); first | done | rfl) ?_); (simp only [go_sem]) | fail)
    all_goals (refine hR _ ?_; refine ret_at [] (by (simp only [go_sem]); first | done | rfl) (by (simp only [go_sem]); first | done | rfl) ⟨rfl, rfl⟩)
  | num _ | tru | fls => intro _ _ hv; simp [E.val] at hv
  | lam _ _ a ih => intro _ _ hv; simp [E.val] at hv
  | _ => intro _ hn; simp [E.noA] at hn
end Go.Proofs.Ytnaebafafhamjaa
/- Evaluation of terms with casts, in the program and in the reference. On shadows. -/
namespace Go.Proofs.Ytnaebafafhamjaa
open Go.RowKit Go.Proofs.Sh Go.Proofs.Grad
set_option maxRecDepth 100000
set_option maxHeartbeats 8000000
theorem tm_nodes40 (e : E) : e.wf = true → e.tm.size ≤ 40 * e.nodes := by
  have hno : noTy.size = 1 := rfl
  induction e with
  | var _ | num _ | tru | fls => intro _; simp only [E.tm, nd, Tm.size, Tm.sizes, hno, E.nodes]; omega
  | lam x t a ih => intro hw; simp only [E.wf, Bool.and_eq_true, decide_eq_true_eq] at hw; have := ih hw.2.2; have := (Ty.valid_16 (t := t.ty) (by rw [T.valid_ty]; simpa using hw.2.1)); simp only [E.tm, nd, Tm.size, Tm.sizes, hno, E.nodes]; omega
  | app a b iha ihb | add a b iha ihb | less a b iha ihb | pair a b iha ihb => intro hw; simp only [E.wf, Bool.and_eq_true] at hw; have := iha hw.1; have := ihb hw.2; simp only [E.tm, nd, Tm.size, Tm.sizes, hno, E.nodes]; omega
  | ite a b c iha ihb ihc => intro hw; simp only [E.wf, Bool.and_eq_true] at hw; have := iha hw.1; have := ihb hw.2.1; have := ihc hw.2.2; simp only [E.tm, nd, Tm.size, Tm.sizes, hno, E.nodes]; omega
  | fst a ih | snd a ih => intro hw; have := ih hw; simp only [E.tm, nd, Tm.size, Tm.sizes, hno, E.nodes]; omega
  | asc t a ih => intro hw; simp only [E.wf, Bool.and_eq_true, decide_eq_true_eq] at hw; have := ih hw.2; have := (Ty.valid_16 (t := t.ty) (by rw [T.valid_ty]; simpa using hw.1)); simp only [E.tm, nd, Tm.size, Tm.sizes, hno, E.nodes]; omega
  | cast s t l a ih => intro hw; simp only [E.wf, Bool.and_eq_true, decide_eq_true_eq] at hw; have := ih hw.2.2.2; have := (Ty.valid_16 (t := t.ty) (by rw [T.valid_ty]; simpa using hw.1.2)); have := (Ty.valid_16 (t := s.ty) (by rw [T.valid_ty]; simpa using hw.1.1)); simp only [E.tm, nd, Tm.size, Tm.sizes, hno, E.nodes]; omega
theorem okC_small {e : E} (h : e.okC = true) : e.tm.size < 100000000 := by
  simp only [E.okC, Bool.and_eq_true, decide_eq_true_eq] at h
  have := tm_nodes40 e h.1
  omega
def scT (r : SC) : AV := .tup [.agg (teC r.tm), .one (.sc (.int .i64 r.code)), .one (.sc (.int .i64 r.lab))]
def badT : AV := .tup [.agg (teC tm0), .one (.sc (.int .i64 3)), .one (.sc (.int .i64 0))]
theorem code_took {r : SR} (h : (r.code == 1) = true) : ∃ x, r = .took x := by
  cases r with
  | took x => exact ⟨x, rfl⟩
  | _ => simp [SR.code] at h
theorem iStepBad (t : Tm) (h : t.castV = false) : AFn Try.prog 26 [.agg (teC t)] badT := by
  have hv := iCastV t
  rw [h] at hv
  unfold badT
  simp only [tm0, noTy]
  refine fn_in ?_; refine acl_in Try.func26 rfl isfn_26 (Nat.le_of_ble_eq_true rfl) (fun R hR => ?_); rw [Try.results26] at hR; refine wg_run ?_; (simp only [Try.f26, go_sem])
  repeat' (first | (first | (simp only [go_sem, int_bne]) | ((first | refine wd_split _ (fun hb => ?_) (fun hb => ?_) | refine wd_nwant _ (fun hb => ?_) (fun hb => ?_) | refine wm_nwant _ (fun hb => ?_) (fun hb => ?_) | refine wd_want _ (fun hb => ?_) (fun hb => ?_) | refine wm_want _ (fun hb => ?_) (fun hb => ?_) | refine wt_nwant _ (fun hb => ?_) (fun hb => ?_) | refine wt_want _ (fun hb => ?_) (fun hb => ?_)) <;> (simp only [go_sem, hb, int_bne])) | (refine wm_done ?_; (simp only [go_sem, int_bne])) | (refine wt_done ?_; (simp only [go_sem, int_bne])) | (refine wg_run ?_; (simp only [go_sem, int_bne])) | (refine wt_fork (by (simp only [go_sem]); first | done | rfl) ?_ ?_ <;> (simp only [go_sem, int_bne]))) | (first | refine wd_fn (by (simp only [go_sem]); first | done | rfl) (hv) ?_ | refine wm_fn (by (simp only [go_sem]); first | done | rfl) (hv) (by (simp only [go_sem]); first | done | rfl) (by (simp only [go_sem]); first | done | rfl) ?_ | refine wt_fn (by (simp only [go_sem]); first | done | rfl) (hv) (by (simp only [go_sem]); first | done | rfl) (by (simp only [go_sem]); first | done | rfl) ?_); (simp only [go_sem]) | fail)
  all_goals (refine hR _ ?_; refine ret_at [] (by (simp only [go_sem]); first | done | rfl) (by (simp only [go_sem]); first | done | rfl) ⟨rfl, rfl⟩)
theorem iStepCast (e : E) (h : e.okC = true) : AFn Try.prog 26 [.agg (teC e.tm)] (scT e.sc) := by
  have hz := okC_small h
  have hv := iCastV e.tm
  rw [E.castV_tm, h] at hv
  have hval := iIsVal 100000000 (by omega) e.tm hz
  rw [E.val_tm] at hval
  simp only [E.okC, Bool.and_eq_true] at h
  have ho := iOwn e h.1
  unfold E.sc
  cases ev : e.val
  · rw [ev] at hval
    have hs := iStep e h.1 h.2.1 ev hz
    simp only [stT] at hs
    simp only []
    cases es : e.step with
    | took x =>
      rw [E.so_took e x ev es, es] at hs
      obtain ⟨xw, xn⟩ := E.step_wf h.1 h.2.1 es
      have hv2 := iCastV x.tm
      rw [E.castV_tm] at hv2
      have ho2 := iOwn x xw
      simp only [SR.code, SR.lab] at hs
      simp only []
      cases eo : x.okC
      all_goals
        rw [eo] at hv2
        simp only [scT, SC.tm, SC.code, SC.lab]
        (try simp only [tm0, noTy])
        refine fn_in ?_; refine acl_in Try.func26 rfl isfn_26 (Nat.le_of_ble_eq_true rfl) (fun R hR => ?_); rw [Try.results26] at hR; refine wg_run ?_; (simp only [Try.f26, go_sem])
        repeat' (first | (first | (simp only [go_sem, int_bne]) | ((first | refine wd_split _ (fun hb => ?_) (fun hb => ?_) | refine wd_nwant _ (fun hb => ?_) (fun hb => ?_) | refine wm_nwant _ (fun hb => ?_) (fun hb => ?_) | refine wd_want _ (fun hb => ?_) (fun hb => ?_) | refine wm_want _ (fun hb => ?_) (fun hb => ?_) | refine wt_nwant _ (fun hb => ?_) (fun hb => ?_) | refine wt_want _ (fun hb => ?_) (fun hb => ?_)) <;> (simp only [go_sem, hb, int_bne])) | (refine wm_done ?_; (simp only [go_sem, int_bne])) | (refine wt_done ?_; (simp only [go_sem, int_bne])) | (refine wg_run ?_; (simp only [go_sem, int_bne])) | (refine wt_fork (by (simp only [go_sem]); first | done | rfl) ?_ ?_ <;> (simp only [go_sem, int_bne]))) | (first | refine wd_fn (by (simp only [go_sem]); first | done | rfl) (hv) ?_ | refine wm_fn (by (simp only [go_sem]); first | done | rfl) (hv) (by (simp only [go_sem]); first | done | rfl) (by (simp only [go_sem]); first | done | rfl) ?_ | refine wt_fn (by (simp only [go_sem]); first | done | rfl) (hv) (by (simp only [go_sem]); first | done | rfl) (by (simp only [go_sem]); first | done | rfl) ?_); (simp only [go_sem]) | (first | refine wd_fn (by (simp only [go_sem]); first | done | rfl) (hval) ?_ | refine wm_fn (by (simp only [go_sem]); first | done | rfl) (hval) (by (simp only [go_sem]); first | done | rfl) (by (simp only [go_sem]); first | done | rfl) ?_ | refine wt_fn (by (simp only [go_sem]); first | done | rfl) (hval) (by (simp only [go_sem]); first | done | rfl) (by (simp only [go_sem]); first | done | rfl) ?_); (simp only [go_sem]) | (first | refine wd_fn (by (simp only [go_sem]); first | done | rfl) (hs) ?_ | refine wm_fn (by (simp only [go_sem]); first | done | rfl) (hs) (by (simp only [go_sem]); first | done | rfl) (by (simp only [go_sem]); first | done | rfl) ?_ | refine wt_fn (by (simp only [go_sem]); first | done | rfl) (hs) (by (simp only [go_sem]); first | done | rfl) (by (simp only [go_sem]); first | done | rfl) ?_); (simp only [go_sem]) | (first | refine wd_fn (by (simp only [go_sem]); first | done | rfl) (hv2) ?_ | refine wm_fn (by (simp only [go_sem]); first | done | rfl) (hv2) (by (simp only [go_sem]); first | done | rfl) (by (simp only [go_sem]); first | done | rfl) ?_ | refine wt_fn (by (simp only [go_sem]); first | done | rfl) (hv2) (by (simp only [go_sem]); first | done | rfl) (by (simp only [go_sem]); first | done | rfl) ?_); (simp only [go_sem]) | (first | refine wd_fn (by (simp only [go_sem]); first | done | rfl) (ho2) ?_ | refine wm_fn (by (simp only [go_sem]); first | done | rfl) (ho2) (by (simp only [go_sem]); first | done | rfl) (by (simp only [go_sem]); first | done | rfl) ?_ | refine wt_fn (by (simp only [go_sem]); first | done | rfl) (ho2) (by (simp only [go_sem]); first | done | rfl) (by (simp only [go_sem]); first | done | rfl) ?_); (simp only [go_sem]) | fail)
        all_goals (refine hR _ ?_; refine ret_at [] (by (simp only [go_sem]); first | done | rfl) (by (simp only [go_sem]); first | done | rfl) ⟨rfl, rfl⟩)
    | blame l =>
      rw [es] at hs
      simp only [SR.code, SR.lab] at hs
      simp only [scT, SC.tm, SC.code, SC.lab]
      simp only [tm0, noTy]
      refine fn_in ?_; refine acl_in Try.func26 rfl isfn_26 (Nat.le_of_ble_eq_true rfl) (fun R hR => ?_); rw [Try.results26] at hR; refine wg_run ?_; (simp only [Try.f26, go_sem])
      repeat' (first | (first | (simp only [go_sem, int_bne]) | ((first | refine wd_split _ (fun hb => ?_) (fun hb => ?_) | refine wd_nwant _ (fun hb => ?_) (fun hb => ?_) | refine wm_nwant _ (fun hb => ?_) (fun hb => ?_) | refine wd_want _ (fun hb => ?_) (fun hb => ?_) | refine wm_want _ (fun hb => ?_) (fun hb => ?_) | refine wt_nwant _ (fun hb => ?_) (fun hb => ?_) | refine wt_want _ (fun hb => ?_) (fun hb => ?_)) <;> (simp only [go_sem, hb, int_bne])) | (refine wm_done ?_; (simp only [go_sem, int_bne])) | (refine wt_done ?_; (simp only [go_sem, int_bne])) | (refine wg_run ?_; (simp only [go_sem, int_bne])) | (refine wt_fork (by (simp only [go_sem]); first | done | rfl) ?_ ?_ <;> (simp only [go_sem, int_bne]))) | (first | refine wd_fn (by (simp only [go_sem]); first | done | rfl) (hv) ?_ | refine wm_fn (by (simp only [go_sem]); first | done | rfl) (hv) (by (simp only [go_sem]); first | done | rfl) (by (simp only [go_sem]); first | done | rfl) ?_ | refine wt_fn (by (simp only [go_sem]); first | done | rfl) (hv) (by (simp only [go_sem]); first | done | rfl) (by (simp only [go_sem]); first | done | rfl) ?_); (simp only [go_sem]) | (first | refine wd_fn (by (simp only [go_sem]); first | done | rfl) (hval) ?_ | refine wm_fn (by (simp only [go_sem]); first | done | rfl) (hval) (by (simp only [go_sem]); first | done | rfl) (by (simp only [go_sem]); first | done | rfl) ?_ | refine wt_fn (by (simp only [go_sem]); first | done | rfl) (hval) (by (simp only [go_sem]); first | done | rfl) (by (simp only [go_sem]); first | done | rfl) ?_); (simp only [go_sem]) | (first | refine wd_fn (by (simp only [go_sem]); first | done | rfl) (hs) ?_ | refine wm_fn (by (simp only [go_sem]); first | done | rfl) (hs) (by (simp only [go_sem]); first | done | rfl) (by (simp only [go_sem]); first | done | rfl) ?_ | refine wt_fn (by (simp only [go_sem]); first | done | rfl) (hs) (by (simp only [go_sem]); first | done | rfl) (by (simp only [go_sem]); first | done | rfl) ?_); (simp only [go_sem]) | fail)
      all_goals (refine hR _ ?_; refine ret_at [] (by (simp only [go_sem]); first | done | rfl) (by (simp only [go_sem]); first | done | rfl) ⟨rfl, rfl⟩)
    | stuck =>
      rw [es] at hs
      simp only [SR.code, SR.lab] at hs
      simp only [scT, SC.tm, SC.code, SC.lab]
      simp only [tm0, noTy]
      refine fn_in ?_; refine acl_in Try.func26 rfl isfn_26 (Nat.le_of_ble_eq_true rfl) (fun R hR => ?_); rw [Try.results26] at hR; refine wg_run ?_; (simp only [Try.f26, go_sem])
      repeat' (first | (first | (simp only [go_sem, int_bne]) | ((first | refine wd_split _ (fun hb => ?_) (fun hb => ?_) | refine wd_nwant _ (fun hb => ?_) (fun hb => ?_) | refine wm_nwant _ (fun hb => ?_) (fun hb => ?_) | refine wd_want _ (fun hb => ?_) (fun hb => ?_) | refine wm_want _ (fun hb => ?_) (fun hb => ?_) | refine wt_nwant _ (fun hb => ?_) (fun hb => ?_) | refine wt_want _ (fun hb => ?_) (fun hb => ?_)) <;> (simp only [go_sem, hb, int_bne])) | (refine wm_done ?_; (simp only [go_sem, int_bne])) | (refine wt_done ?_; (simp only [go_sem, int_bne])) | (refine wg_run ?_; (simp only [go_sem, int_bne])) | (refine wt_fork (by (simp only [go_sem]); first | done | rfl) ?_ ?_ <;> (simp only [go_sem, int_bne]))) | (first | refine wd_fn (by (simp only [go_sem]); first | done | rfl) (hv) ?_ | refine wm_fn (by (simp only [go_sem]); first | done | rfl) (hv) (by (simp only [go_sem]); first | done | rfl) (by (simp only [go_sem]); first | done | rfl) ?_ | refine wt_fn (by (simp only [go_sem]); first | done | rfl) (hv) (by (simp only [go_sem]); first | done | rfl) (by (simp only [go_sem]); first | done | rfl) ?_); (simp only [go_sem]) | (first | refine wd_fn (by (simp only [go_sem]); first | done | rfl) (hval) ?_ | refine wm_fn (by (simp only [go_sem]); first | done | rfl) (hval) (by (simp only [go_sem]); first | done | rfl) (by (simp only [go_sem]); first | done | rfl) ?_ | refine wt_fn (by (simp only [go_sem]); first | done | rfl) (hval) (by (simp only [go_sem]); first | done | rfl) (by (simp only [go_sem]); first | done | rfl) ?_); (simp only [go_sem]) | (first | refine wd_fn (by (simp only [go_sem]); first | done | rfl) (hs) ?_ | refine wm_fn (by (simp only [go_sem]); first | done | rfl) (hs) (by (simp only [go_sem]); first | done | rfl) (by (simp only [go_sem]); first | done | rfl) ?_ | refine wt_fn (by (simp only [go_sem]); first | done | rfl) (hs) (by (simp only [go_sem]); first | done | rfl) (by (simp only [go_sem]); first | done | rfl) ?_); (simp only [go_sem]) | fail)
      all_goals (refine hR _ ?_; refine ret_at [] (by (simp only [go_sem]); first | done | rfl) (by (simp only [go_sem]); first | done | rfl) ⟨rfl, rfl⟩)
  · rw [ev] at hval
    simp only [scT, SC.tm, SC.code, SC.lab]
    refine fn_in ?_; refine acl_in Try.func26 rfl isfn_26 (Nat.le_of_ble_eq_true rfl) (fun R hR => ?_); rw [Try.results26] at hR; refine wg_run ?_; (simp only [Try.f26, go_sem])
    repeat' (first | (first | (simp only [go_sem, int_bne]) | ((first | refine wd_split _ (fun hb => ?_) (fun hb => ?_) | refine wd_nwant _ (fun hb => ?_) (fun hb => ?_) | refine wm_nwant _ (fun hb => ?_) (fun hb => ?_) | refine wd_want _ (fun hb => ?_) (fun hb => ?_) | refine wm_want _ (fun hb => ?_) (fun hb => ?_) | refine wt_nwant _ (fun hb => ?_) (fun hb => ?_) | refine wt_want _ (fun hb => ?_) (fun hb => ?_)) <;> (simp only [go_sem, hb, int_bne])) | (refine wm_done ?_; (simp only [go_sem, int_bne])) | (refine wt_done ?_; (simp only [go_sem, int_bne])) | (refine wg_run ?_; (simp only [go_sem, int_bne])) | (refine wt_fork (by (simp only [go_sem]); first | done | rfl) ?_ ?_ <;> (simp only [go_sem, int_bne]))) | (first | refine wd_fn (by (simp only [go_sem]); first | done | rfl) (hv) ?_ | refine wm_fn (by (simp only [go_sem]); first | done | rfl) (hv) (by (simp only [go_sem]); first | done | rfl) (by (simp only [go_sem]); first | done | rfl) ?_ | refine wt_fn (by (simp only [go_sem]); first | done | rfl) (hv) (by (simp only [go_sem]); first | done | rfl) (by (simp only [go_sem]); first | done | rfl) ?_); (simp only [go_sem]) | (first | refine wd_fn (by (simp only [go_sem]); first | done | rfl) (hval) ?_ | refine wm_fn (by (simp only [go_sem]); first | done | rfl) (hval) (by (simp only [go_sem]); first | done | rfl) (by (simp only [go_sem]); first | done | rfl) ?_ | refine wt_fn (by (simp only [go_sem]); first | done | rfl) (hval) (by (simp only [go_sem]); first | done | rfl) (by (simp only [go_sem]); first | done | rfl) ?_); (simp only [go_sem]) | (first | refine wd_fn (by (simp only [go_sem]); first | done | rfl) (ho) ?_ | refine wm_fn (by (simp only [go_sem]); first | done | rfl) (ho) (by (simp only [go_sem]); first | done | rfl) (by (simp only [go_sem]); first | done | rfl) ?_ | refine wt_fn (by (simp only [go_sem]); first | done | rfl) (ho) (by (simp only [go_sem]); first | done | rfl) (by (simp only [go_sem]); first | done | rfl) ?_); (simp only [go_sem]) | fail)
    all_goals (refine hR _ ?_; refine ret_at [] (by (simp only [go_sem]); first | done | rfl) (by (simp only [go_sem]); first | done | rfl) ⟨rfl, rfl⟩)
theorem sStepBad (t : Tm) (h : t.castV = false) (hz : t.size < 4611686018427387904) : AFn Try.prog 25 [.agg (teC t)] badT := by
  have hv := sCastV t hz
  rw [h] at hv
  unfold badT
  simp only [tm0, noTy]
  refine fn_in ?_; refine acl_in Try.func25 rfl isfn_25 (Nat.le_of_ble_eq_true rfl) (fun R hR => ?_); rw [Try.results25] at hR; refine wg_run ?_; (simp only [Try.f25, go_sem])
  repeat' (first | (first | (simp only [go_sem, int_bne]) | ((first | refine wd_split _ (fun hb => ?_) (fun hb => ?_) | refine wd_nwant _ (fun hb => ?_) (fun hb => ?_) | refine wm_nwant _ (fun hb => ?_) (fun hb => ?_) | refine wd_want _ (fun hb => ?_) (fun hb => ?_) | refine wm_want _ (fun hb => ?_) (fun hb => ?_) | refine wt_nwant _ (fun hb => ?_) (fun hb => ?_) | refine wt_want _ (fun hb => ?_) (fun hb => ?_)) <;> (simp only [go_sem, hb, int_bne])) | (refine wm_done ?_; (simp only [go_sem, int_bne])) | (refine wt_done ?_; (simp only [go_sem, int_bne])) | (refine wg_run ?_; (simp only [go_sem, int_bne])) | (refine wt_fork (by (simp only [go_sem]); first | done | rfl) ?_ ?_ <;> (simp only [go_sem, int_bne]))) | (first | refine wd_fn (by (simp only [go_sem]); first | done | rfl) (hv) ?_ | refine wm_fn (by (simp only [go_sem]); first | done | rfl) (hv) (by (simp only [go_sem]); first | done | rfl) (by (simp only [go_sem]); first | done | rfl) ?_ | refine wt_fn (by (simp only [go_sem]); first | done | rfl) (hv) (by (simp only [go_sem]); first | done | rfl) (by (simp only [go_sem]); first | done | rfl) ?_); (simp only [go_sem]) | fail)
  all_goals (refine hR _ ?_; refine ret_at [] (by (simp only [go_sem]); first | done | rfl) (by (simp only [go_sem]); first | done | rfl) ⟨rfl, rfl⟩)
theorem sStepCast (e : E) (h : e.okC = true) : AFn Try.prog 25 [.agg (teC e.tm)] (scT e.sc) := by
  have hz := okC_small h
  have hv := sCastV e.tm (by omega)
  rw [E.castV_tm, h] at hv
  simp only [E.okC, Bool.and_eq_true] at h
  have hval := sIsVal e h.1
  rw [E.val_tm] at hval
  have ho := l2Copy 274877906944 (by omega) e.tm (by omega)
  unfold E.sc
  cases ev : e.val
  · rw [ev] at hval
    have hs := sStep e h.1 h.2.1 ev hz
    simp only [srS] at hs
    simp only []
    cases es : e.step with
    | took x =>
      rw [es] at hs
      obtain ⟨xw, xn⟩ := E.step_wf h.1 h.2.1 es
      have hxz : x.tm.size < 1000000000 := by have h4 := E.step_nodes es (of_decide_eq_true h.2.2.2); have := tm_nodes40 x xw; omega
      have hv2 := sCastV x.tm (by omega)
      rw [E.castV_tm] at hv2
      have ho2 := l2Copy 274877906944 (by omega) x.tm (by omega)
      simp only [SR.code, SR.lab, SR.tm] at hs
      simp only []
      cases eo : x.okC
      all_goals
        rw [eo] at hv2
        simp only [scT, SC.tm, SC.code, SC.lab]
        (try simp only [tm0, noTy])
        refine fn_in ?_; refine acl_in Try.func25 rfl isfn_25 (Nat.le_of_ble_eq_true rfl) (fun R hR => ?_); rw [Try.results25] at hR; refine wg_run ?_; (simp only [Try.f25, go_sem])
        repeat' (first | (first | (simp only [go_sem, int_bne]) | ((first | refine wd_split _ (fun hb => ?_) (fun hb => ?_) | refine wd_nwant _ (fun hb => ?_) (fun hb => ?_) | refine wm_nwant _ (fun hb => ?_) (fun hb => ?_) | refine wd_want _ (fun hb => ?_) (fun hb => ?_) | refine wm_want _ (fun hb => ?_) (fun hb => ?_) | refine wt_nwant _ (fun hb => ?_) (fun hb => ?_) | refine wt_want _ (fun hb => ?_) (fun hb => ?_)) <;> (simp only [go_sem, hb, int_bne])) | (refine wm_done ?_; (simp only [go_sem, int_bne])) | (refine wt_done ?_; (simp only [go_sem, int_bne])) | (refine wg_run ?_; (simp only [go_sem, int_bne])) | (refine wt_fork (by (simp only [go_sem]); first | done | rfl) ?_ ?_ <;> (simp only [go_sem, int_bne]))) | (first | refine wd_fn (by (simp only [go_sem]); first | done | rfl) (hv) ?_ | refine wm_fn (by (simp only [go_sem]); first | done | rfl) (hv) (by (simp only [go_sem]); first | done | rfl) (by (simp only [go_sem]); first | done | rfl) ?_ | refine wt_fn (by (simp only [go_sem]); first | done | rfl) (hv) (by (simp only [go_sem]); first | done | rfl) (by (simp only [go_sem]); first | done | rfl) ?_); (simp only [go_sem]) | (first | refine wd_fn (by (simp only [go_sem]); first | done | rfl) (hval) ?_ | refine wm_fn (by (simp only [go_sem]); first | done | rfl) (hval) (by (simp only [go_sem]); first | done | rfl) (by (simp only [go_sem]); first | done | rfl) ?_ | refine wt_fn (by (simp only [go_sem]); first | done | rfl) (hval) (by (simp only [go_sem]); first | done | rfl) (by (simp only [go_sem]); first | done | rfl) ?_); (simp only [go_sem]) | (first | refine wd_fn (by (simp only [go_sem]); first | done | rfl) (hs) ?_ | refine wm_fn (by (simp only [go_sem]); first | done | rfl) (hs) (by (simp only [go_sem]); first | done | rfl) (by (simp only [go_sem]); first | done | rfl) ?_ | refine wt_fn (by (simp only [go_sem]); first | done | rfl) (hs) (by (simp only [go_sem]); first | done | rfl) (by (simp only [go_sem]); first | done | rfl) ?_); (simp only [go_sem]) | (first | refine wd_fn (by (simp only [go_sem]); first | done | rfl) (hv2) ?_ | refine wm_fn (by (simp only [go_sem]); first | done | rfl) (hv2) (by (simp only [go_sem]); first | done | rfl) (by (simp only [go_sem]); first | done | rfl) ?_ | refine wt_fn (by (simp only [go_sem]); first | done | rfl) (hv2) (by (simp only [go_sem]); first | done | rfl) (by (simp only [go_sem]); first | done | rfl) ?_); (simp only [go_sem]) | (first | refine wd_fn (by (simp only [go_sem]); first | done | rfl) (ho2) ?_ | refine wm_fn (by (simp only [go_sem]); first | done | rfl) (ho2) (by (simp only [go_sem]); first | done | rfl) (by (simp only [go_sem]); first | done | rfl) ?_ | refine wt_fn (by (simp only [go_sem]); first | done | rfl) (ho2) (by (simp only [go_sem]); first | done | rfl) (by (simp only [go_sem]); first | done | rfl) ?_); (simp only [go_sem]) | fail)
        all_goals (refine hR _ ?_; refine ret_at [] (by (simp only [go_sem]); first | done | rfl) (by (simp only [go_sem]); first | done | rfl) ⟨rfl, rfl⟩)
    | blame l =>
      rw [es] at hs
      simp only [SR.code, SR.lab, SR.tm] at hs
      simp only [scT, SC.tm, SC.code, SC.lab]
      simp only [tm0, noTy] at hs ⊢
      refine fn_in ?_; refine acl_in Try.func25 rfl isfn_25 (Nat.le_of_ble_eq_true rfl) (fun R hR => ?_); rw [Try.results25] at hR; refine wg_run ?_; (simp only [Try.f25, go_sem])
      repeat' (first | (first | (simp only [go_sem, int_bne]) | ((first | refine wd_split _ (fun hb => ?_) (fun hb => ?_) | refine wd_nwant _ (fun hb => ?_) (fun hb => ?_) | refine wm_nwant _ (fun hb => ?_) (fun hb => ?_) | refine wd_want _ (fun hb => ?_) (fun hb => ?_) | refine wm_want _ (fun hb => ?_) (fun hb => ?_) | refine wt_nwant _ (fun hb => ?_) (fun hb => ?_) | refine wt_want _ (fun hb => ?_) (fun hb => ?_)) <;> (simp only [go_sem, hb, int_bne])) | (refine wm_done ?_; (simp only [go_sem, int_bne])) | (refine wt_done ?_; (simp only [go_sem, int_bne])) | (refine wg_run ?_; (simp only [go_sem, int_bne])) | (refine wt_fork (by (simp only [go_sem]); first | done | rfl) ?_ ?_ <;> (simp only [go_sem, int_bne]))) | (first | refine wd_fn (by (simp only [go_sem]); first | done | rfl) (hv) ?_ | refine wm_fn (by (simp only [go_sem]); first | done | rfl) (hv) (by (simp only [go_sem]); first | done | rfl) (by (simp only [go_sem]); first | done | rfl) ?_ | refine wt_fn (by (simp only [go_sem]); first | done | rfl) (hv) (by (simp only [go_sem]); first | done | rfl) (by (simp only [go_sem]); first | done | rfl) ?_); (simp only [go_sem]) | (first | refine wd_fn (by (simp only [go_sem]); first | done | rfl) (hval) ?_ | refine wm_fn (by (simp only [go_sem]); first | done | rfl) (hval) (by (simp only [go_sem]); first | done | rfl) (by (simp only [go_sem]); first | done | rfl) ?_ | refine wt_fn (by (simp only [go_sem]); first | done | rfl) (hval) (by (simp only [go_sem]); first | done | rfl) (by (simp only [go_sem]); first | done | rfl) ?_); (simp only [go_sem]) | (first | refine wd_fn (by (simp only [go_sem]); first | done | rfl) (hs) ?_ | refine wm_fn (by (simp only [go_sem]); first | done | rfl) (hs) (by (simp only [go_sem]); first | done | rfl) (by (simp only [go_sem]); first | done | rfl) ?_ | refine wt_fn (by (simp only [go_sem]); first | done | rfl) (hs) (by (simp only [go_sem]); first | done | rfl) (by (simp only [go_sem]); first | done | rfl) ?_); (simp only [go_sem]) | fail)
      all_goals (refine hR _ ?_; refine ret_at [] (by (simp only [go_sem]); first | done | rfl) (by (simp only [go_sem]); first | done | rfl) ⟨rfl, rfl⟩)
    | stuck =>
      rw [es] at hs
      simp only [SR.code, SR.lab, SR.tm] at hs
      simp only [scT, SC.tm, SC.code, SC.lab]
      simp only [tm0, noTy] at hs ⊢
      refine fn_in ?_; refine acl_in Try.func25 rfl isfn_25 (Nat.le_of_ble_eq_true rfl) (fun R hR => ?_); rw [Try.results25] at hR; refine wg_run ?_; (simp only [Try.f25, go_sem])
      repeat' (first | (first | (simp only [go_sem, int_bne]) | ((first | refine wd_split _ (fun hb => ?_) (fun hb => ?_) | refine wd_nwant _ (fun hb => ?_) (fun hb => ?_) | refine wm_nwant _ (fun hb => ?_) (fun hb => ?_) | refine wd_want _ (fun hb => ?_) (fun hb => ?_) | refine wm_want _ (fun hb => ?_) (fun hb => ?_) | refine wt_nwant _ (fun hb => ?_) (fun hb => ?_) | refine wt_want _ (fun hb => ?_) (fun hb => ?_)) <;> (simp only [go_sem, hb, int_bne])) | (refine wm_done ?_; (simp only [go_sem, int_bne])) | (refine wt_done ?_; (simp only [go_sem, int_bne])) | (refine wg_run ?_; (simp only [go_sem, int_bne])) | (refine wt_fork (by (simp only [go_sem]); first | done | rfl) ?_ ?_ <;> (simp only [go_sem, int_bne]))) | (first | refine wd_fn (by (simp only [go_sem]); first | done | rfl) (hv) ?_ | refine wm_fn (by (simp only [go_sem]); first | done | rfl) (hv) (by (simp only [go_sem]); first | done | rfl) (by (simp only [go_sem]); first | done | rfl) ?_ | refine wt_fn (by (simp only [go_sem]); first | done | rfl) (hv) (by (simp only [go_sem]); first | done | rfl) (by (simp only [go_sem]); first | done | rfl) ?_); (simp only [go_sem]) | (first | refine wd_fn (by (simp only [go_sem]); first | done | rfl) (hval) ?_ | refine wm_fn (by (simp only [go_sem]); first | done | rfl) (hval) (by (simp only [go_sem]); first | done | rfl) (by (simp only [go_sem]); first | done | rfl) ?_ | refine wt_fn (by (simp only [go_sem]); first | done | rfl) (hval) (by (simp only [go_sem]); first | done | rfl) (by (simp only [go_sem]); first | done | rfl) ?_); (simp only [go_sem]) | (first | refine wd_fn (by (simp only [go_sem]); first | done | rfl) (hs) ?_ | refine wm_fn (by (simp only [go_sem]); first | done | rfl) (hs) (by (simp only [go_sem]); first | done | rfl) (by (simp only [go_sem]); first | done | rfl) ?_ | refine wt_fn (by (simp only [go_sem]); first | done | rfl) (hs) (by (simp only [go_sem]); first | done | rfl) (by (simp only [go_sem]); first | done | rfl) ?_); (simp only [go_sem]) | fail)
      all_goals (refine hR _ ?_; refine ret_at [] (by (simp only [go_sem]); first | done | rfl) (by (simp only [go_sem]); first | done | rfl) ⟨rfl, rfl⟩)
  · rw [ev] at hval
    simp only [scT, SC.tm, SC.code, SC.lab]
    refine fn_in ?_; refine acl_in Try.func25 rfl isfn_25 (Nat.le_of_ble_eq_true rfl) (fun R hR => ?_); rw [Try.results25] at hR; refine wg_run ?_; (simp only [Try.f25, go_sem])
    repeat' (first | (first | (simp only [go_sem, int_bne]) | ((first | refine wd_split _ (fun hb => ?_) (fun hb => ?_) | refine wd_nwant _ (fun hb => ?_) (fun hb => ?_) | refine wm_nwant _ (fun hb => ?_) (fun hb => ?_) | refine wd_want _ (fun hb => ?_) (fun hb => ?_) | refine wm_want _ (fun hb => ?_) (fun hb => ?_) | refine wt_nwant _ (fun hb => ?_) (fun hb => ?_) | refine wt_want _ (fun hb => ?_) (fun hb => ?_)) <;> (simp only [go_sem, hb, int_bne])) | (refine wm_done ?_; (simp only [go_sem, int_bne])) | (refine wt_done ?_; (simp only [go_sem, int_bne])) | (refine wg_run ?_; (simp only [go_sem, int_bne])) | (refine wt_fork (by (simp only [go_sem]); first | done | rfl) ?_ ?_ <;> (simp only [go_sem, int_bne]))) | (first | refine wd_fn (by (simp only [go_sem]); first | done | rfl) (hv) ?_ | refine wm_fn (by (simp only [go_sem]); first | done | rfl) (hv) (by (simp only [go_sem]); first | done | rfl) (by (simp only [go_sem]); first | done | rfl) ?_ | refine wt_fn (by (simp only [go_sem]); first | done | rfl) (hv) (by (simp only [go_sem]); first | done | rfl) (by (simp only [go_sem]); first | done | rfl) ?_); (simp only [go_sem]) | (first | refine wd_fn (by (simp only [go_sem]); first | done | rfl) (hval) ?_ | refine wm_fn (by (simp only [go_sem]); first | done | rfl) (hval) (by (simp only [go_sem]); first | done | rfl) (by (simp only [go_sem]); first | done | rfl) ?_ | refine wt_fn (by (simp only [go_sem]); first | done | rfl) (hval) (by (simp only [go_sem]); first | done | rfl) (by (simp only [go_sem]); first | done | rfl) ?_); (simp only [go_sem]) | (first | refine wd_fn (by (simp only [go_sem]); first | done | rfl) (ho) ?_ | refine wm_fn (by (simp only [go_sem]); first | done | rfl) (ho) (by (simp only [go_sem]); first | done | rfl) (by (simp only [go_sem]); first | done | rfl) ?_ | refine wt_fn (by (simp only [go_sem]); first | done | rfl) (ho) (by (simp only [go_sem]); first | done | rfl) (by (simp only [go_sem]); first | done | rfl) ?_); (simp only [go_sem]) | fail)
    all_goals (refine hR _ ?_; refine ret_at [] (by (simp only [go_sem]); first | done | rfl) (by (simp only [go_sem]); first | done | rfl) ⟨rfl, rfl⟩)
end Go.Proofs.Ytnaebafafhamjaa
/- Casts that are nested directly. No program, no world. -/
namespace Go.Proofs.Grad
/-- the greatest number of casts nested directly; so many above -/
def E.pend : E → Nat → Nat
  | .var _, _ | .num _, _ | .tru, _ | .fls, _ => 0
  | .lam _ _ a, _ | .fst a, _ | .snd a, _ | .asc _ a, _ => a.pend 0
  | .app a b, _ | .add a b, _ | .less a b, _ | .pair a b, _ => max (a.pend 0) (b.pend 0)
  | .ite a b c, _ => max (max (a.pend 0) (b.pend 0)) (c.pend 0)
  | .cast _ _ _ a, k => max (k + 1) (a.pend (k + 1))
def E.lead : E → Nat | .cast _ _ _ a => a.lead + 1 | _ => 0
def E.nest : E → Nat
  | .var _ | .num _ | .tru | .fls => 0
  | .lam _ _ a | .fst a | .snd a | .asc _ a => a.nest
  | .app a b | .add a b | .less a b | .pair a b => max a.nest b.nest
  | .ite a b c => max (max a.nest b.nest) c.nest
  | .cast _ _ _ a => max (a.lead + 1) a.nest
theorem E.lead_nest (e : E) : e.lead ≤ e.nest := by cases e <;> simp only [E.lead, E.nest] <;> omega
theorem E.pend_eq (e : E) : ∀ k : Nat, e.pend k = max (match e.lead with | 0 => 0 | n + 1 => k + n + 1) e.nest := by
  have hz : ∀ x : E, max (match x.lead with | 0 => 0 | n + 1 => 0 + n + 1) x.nest = x.nest := by
    intro x
    have := x.lead_nest
    cases h : x.lead with
    | zero => simp
    | succ n => simp only []; omega
  induction e with
  | cast s t l a ih =>
    intro k
    simp only [E.pend, E.lead, E.nest, ih]
    have := a.lead_nest
    cases h : a.lead with
    | zero => simp only []; omega
    | succ n => simp only []; omega
  | var _ | num _ | tru | fls => intro k; simp [E.pend, E.lead, E.nest]
  | lam _ _ a ih | fst a ih | snd a ih | asc _ a ih => intro k; simp only [E.pend, E.lead, E.nest, ih, hz]; omega
  | app a b iha ihb | add a b iha ihb | less a b iha ihb | pair a b iha ihb => intro k; simp only [E.pend, E.lead, E.nest, iha, ihb, hz]; omega
  | ite a b c iha ihb ihc => intro k; simp only [E.pend, E.lead, E.nest, iha, ihb, ihc, hz]; omega
theorem E.pend_nest (e : E) : e.pend 0 = e.nest := by
  rw [E.pend_eq]
  have := e.lead_nest
  cases h : e.lead with
  | zero => simp
  | succ n => simp only []; omega
theorem E.nest_nodes (e : E) : e.nest ≤ e.nodes ∧ e.lead ≤ e.nodes := by
  induction e <;> simp only [E.nest, E.lead, E.nodes] <;> omega
/-- the greatest number among the terms that are reached -/
def E.pI : Nat → E → Nat → Nat
  | 0, _, b => b
  | k + 1, x, b => match x.sc with | .took y => y.pI k (max b y.nest) | _ => b
theorem E.pI_took {x y : E} (h : x.sc = .took y) (k b : Nat) : x.pI (k + 1) b = y.pI k (max b y.nest) := by simp only [E.pI, h]
theorem E.pI_stop {x : E} (h : ∀ y, x.sc ≠ .took y) (k b : Nat) : x.pI k b = b := by
  cases k with
  | zero => rfl
  | succ k =>
    rw [E.pI]
    cases hx : x.sc with
    | took y => exact absurd hx (h y)
    | _ => rfl
/-- how many steps -/
noncomputable def Tm.countV (t : Tm) (f : Int) : Nat := by
  classical
  exact if h : t.castV = true then (match decide (0 ≤ f) && decide (f ≤ 300) with | true => ((Classical.choose (Tm.castV_E h)).evI f.toNat 0).2 | false => 0) else 0
theorem Tm.countV_E {e : E} (h : e.okC = true) (f : Nat) (hf : f ≤ 300) : e.tm.countV f = (e.evI f 0).2 := by
  have h' : e.tm.castV = true := by rw [E.castV_tm]; exact h
  unfold Tm.countV
  rw [dif_pos h', E.tm_inj _ _ (Classical.choose_spec (Tm.castV_E h')).1]
  have : (decide ((0 : Int) ≤ (f : Int)) && decide ((f : Int) ≤ 300)) = true := by simp; omega
  rw [this]
  rfl
theorem Tm.countV_bad {t : Tm} (h : t.castV = false) (f : Int) : t.countV f = 0 := by unfold Tm.countV; rw [dif_neg (by simp [h])]
theorem Tm.countV_off (t : Tm) {f : Int} (h : (decide (0 ≤ f) && decide (f ≤ 300)) = false) : t.countV f = 0 := by
  unfold Tm.countV; split
  · rw [h]
  · rfl
/-- the greatest number of pending casts -/
noncomputable def Tm.pendV (t : Tm) (f : Int) : Nat := by
  classical
  exact if h : t.castV = true then (match decide (0 ≤ f) && decide (f ≤ 300) with | true => (Classical.choose (Tm.castV_E h)).pI f.toNat (Classical.choose (Tm.castV_E h)).nest | false => 0) else 0
theorem Tm.pendV_E {e : E} (h : e.okC = true) (f : Nat) (hf : f ≤ 300) : Tm.pendV e.tm f = e.pI f e.nest := by
  have h' : e.tm.castV = true := by rw [E.castV_tm]; exact h
  unfold Tm.pendV
  rw [dif_pos h', E.tm_inj _ _ (Classical.choose_spec (Tm.castV_E h')).1]
  have : (decide ((0 : Int) ≤ (f : Int)) && decide ((f : Int) ≤ 300)) = true := by simp; omega
  rw [this]
  rfl
theorem Tm.pendV_bad {t : Tm} (h : t.castV = false) (f : Int) : Tm.pendV t f = 0 := by unfold Tm.pendV; rw [dif_neg (by simp [h])]
theorem Tm.pendV_off (t : Tm) {f : Int} (h : (decide (0 ≤ f) && decide (f ≤ 300)) = false) : Tm.pendV t f = 0 := by
  unfold Tm.pendV; split
  · rw [h]
  · rfl
end Go.Proofs.Grad
