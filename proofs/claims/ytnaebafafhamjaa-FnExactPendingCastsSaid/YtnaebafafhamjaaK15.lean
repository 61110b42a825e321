/- Texts of the proof, one behind another. -/
import Derived.Test.YtnaebafafhamjaaK12
import Derived.Test.YtnaebafafhamjaaK13
set_option linter.unusedSimpArgs false
set_option linter.unusedVariables false
/- Casts that are pending, in the program and in the reference. On shadows. -/
namespace Go.Proofs.Ytnaebafafhamjaa
open Go.RowKit Go.Proofs.Sh Go.Proofs.Grad
set_option maxRecDepth 100000
set_option maxHeartbeats 8000000
theorem mx (a b : Nat) : max (a : Int) (b : Int) = ((max a b : Nat) : Int) := by omega
theorem mx0 (b : Nat) : max (0 : Int) (b : Int) = (b : Int) := by omega
theorem iPending (e : E) : ∀ k : Nat, k + e.nodes < 100000 → AFn Try.prog 63 [.agg (teC e.tm), .one (.sc (.int .i64 (k : Nat)))] (.one (.sc (.int .i64 (e.pend k : Nat)))) := by
  induction e with
  | var _ | num _ | tru | fls =>
    intro k hk
    simp only [E.pend]
    simp only [E.tm, nd]
    refine fn_in ?_; refine acl_in Try.func63 rfl isfn_63 (Nat.le_of_ble_eq_true rfl) (fun R hR => ?_); rw [Try.results63] at hR; refine wg_run ?_; (simp only [Try.f63, go_sem])
    repeat' (first | (first | (simp only [go_sem, int_bne]) | ((first | refine wd_split _ (fun hb => ?_) (fun hb => ?_) | refine wd_nwant _ (fun hb => ?_) (fun hb => ?_) | refine wm_nwant _ (fun hb => ?_) (fun hb => ?_) | refine wd_want _ (fun hb => ?_) (fun hb => ?_) | refine wm_want _ (fun hb => ?_) (fun hb => ?_) | refine wt_nwant _ (fun hb => ?_) (fun hb => ?_) | refine wt_want _ (fun hb => ?_) (fun hb => ?_)) <;> (simp only [go_sem, hb, int_bne])) | (refine wm_done ?_; (simp only [go_sem, int_bne])) | (refine wt_done ?_; (simp only [go_sem, int_bne])) | (refine wg_run ?_; (simp only [go_sem, int_bne])) | (refine wt_fork (by (simp only [go_sem]); first | done | rfl) ?_ ?_ <;> (simp only [go_sem, int_bne]))) | (first | (refine wl_next (wg_run ?_); (simp only [go_sem])) | refine wd_rounds 6 ?_) | fail)
    all_goals (refine hR _ ?_; refine ret_at [] (by (simp only [go_sem]); first | done | rfl) (by (simp only [go_sem]); first | done | rfl) ⟨rfl, rfl⟩)
  | lam _ _ a ih | fst a ih | snd a ih | asc _ a ih =>
    intro k hk
    simp only [E.nodes] at hk
    have h1 := ih 0 (by omega)
    simp only [Int.natCast_zero, Int.cast_ofNat_Int] at h1
    simp only [E.pend]
    simp only [E.tm, nd]
    refine fn_in ?_; refine acl_in Try.func63 rfl isfn_63 (Nat.le_of_ble_eq_true rfl) (fun R hR => ?_); rw [Try.results63] at hR; refine wg_run ?_; (simp only [Try.f63, go_sem, mx0])
    repeat' (first | (first | (simp only [go_sem, int_bne, mx0]) | ((first | refine wd_split _ (fun hb => ?_) (fun hb => ?_) | refine wd_nwant _ (fun hb => ?_) (fun hb => ?_) | refine wm_nwant _ (fun hb => ?_) (fun hb => ?_) | refine wd_want _ (fun hb => ?_) (fun hb => ?_) | refine wm_want _ (fun hb => ?_) (fun hb => ?_) | refine wt_nwant _ (fun hb => ?_) (fun hb => ?_) | refine wt_want _ (fun hb => ?_) (fun hb => ?_)) <;> (simp only [go_sem, hb, int_bne, mx0])) | (refine wm_done ?_; (simp only [go_sem, int_bne, mx0])) | (refine wt_done ?_; (simp only [go_sem, int_bne, mx0])) | (refine wg_run ?_; (simp only [go_sem, int_bne, mx0])) | (refine wt_fork (by (simp only [go_sem]); first | done | rfl) ?_ ?_ <;> (simp only [go_sem, int_bne, mx0]))) | (first | (refine wl_next (wg_run ?_); (simp only [go_sem])) | refine wd_rounds 6 ?_) | (first | refine wd_fn (by (simp only [go_sem]); first | done | rfl) (h1) ?_ | refine wm_fn (by (simp only [go_sem]); first | done | rfl) (h1) (by (simp only [go_sem]); first | done | rfl) (by (simp only [go_sem]); first | done | rfl) ?_ | refine wt_fn (by (simp only [go_sem]); first | done | rfl) (h1) (by (simp only [go_sem]); first | done | rfl) (by (simp only [go_sem]); first | done | rfl) ?_); (simp only [go_sem]) | fail)
    (refine hR _ ?_; refine ret_at [] (by (simp only [go_sem]); first | done | rfl) (by (simp only [go_sem]); first | done | rfl) ⟨?_, rfl⟩)
    simp only [mx0]
  | app a b iha ihb | add a b iha ihb | less a b iha ihb | pair a b iha ihb =>
    intro k hk
    simp only [E.nodes] at hk
    have h1 := iha 0 (by omega)
    have h2 := ihb 0 (by omega)
    simp only [Int.natCast_zero, Int.cast_ofNat_Int] at h1 h2
    simp only [E.pend]
    simp only [E.tm, nd]
    refine fn_in ?_; refine acl_in Try.func63 rfl isfn_63 (Nat.le_of_ble_eq_true rfl) (fun R hR => ?_); rw [Try.results63] at hR; refine wg_run ?_; (simp only [Try.f63, go_sem, mx0, mx])
    repeat' (first | (first | (simp only [go_sem, int_bne, mx0, mx]) | ((first | refine wd_split _ (fun hb => ?_) (fun hb => ?_) | refine wd_nwant _ (fun hb => ?_) (fun hb => ?_) | refine wm_nwant _ (fun hb => ?_) (fun hb => ?_) | refine wd_want _ (fun hb => ?_) (fun hb => ?_) | refine wm_want _ (fun hb => ?_) (fun hb => ?_) | refine wt_nwant _ (fun hb => ?_) (fun hb => ?_) | refine wt_want _ (fun hb => ?_) (fun hb => ?_)) <;> (simp only [go_sem, hb, int_bne, mx0, mx])) | (refine wm_done ?_; (simp only [go_sem, int_bne, mx0, mx])) | (refine wt_done ?_; (simp only [go_sem, int_bne, mx0, mx])) | (refine wg_run ?_; (simp only [go_sem, int_bne, mx0, mx])) | (refine wt_fork (by (simp only [go_sem]); first | done | rfl) ?_ ?_ <;> (simp only [go_sem, int_bne, mx0, mx]))) | (first | (refine wl_next (wg_run ?_); (simp only [go_sem])) | refine wd_rounds 6 ?_) | (first | refine wd_fn (by (simp only [go_sem]); first | done | rfl) (h1) ?_ | refine wm_fn (by (simp only [go_sem]); first | done | rfl) (h1) (by (simp only [go_sem]); first | done | rfl) (by (simp only [go_sem]); first | done | rfl) ?_ | refine wt_fn (by (simp only [go_sem]); first | done | rfl) (h1) (by (simp only [go_sem]); first | done | rfl) (by (simp only [go_sem]); first | done | rfl) ?_); (simp only [go_sem]) | (first | refine wd_fn (by (simp only [go_sem]); first | done | rfl) (h2) ?_ | refine wm_fn (by (simp only [go_sem]); first | done | rfl) (h2) (by (simp only [go_sem]); first | done | rfl) (by (simp only [go_sem]); first | done | rfl) ?_ | refine wt_fn (by (simp only [go_sem]); first | done | rfl) (h2) (by (simp only [go_sem]); first | done | rfl) (by (simp only [go_sem]); first | done | rfl) ?_); (simp only [go_sem]) | fail)
    (refine hR _ ?_; refine ret_at [] (by (simp only [go_sem]); first | done | rfl) (by (simp only [go_sem]); first | done | rfl) ⟨?_, rfl⟩)
    simp only [mx0, mx]
  | ite a b c iha ihb ihc =>
    intro k hk
    simp only [E.nodes] at hk
    have h1 := iha 0 (by omega)
    have h2 := ihb 0 (by omega)
    have h3 := ihc 0 (by omega)
    simp only [Int.natCast_zero, Int.cast_ofNat_Int] at h1 h2 h3
    simp only [E.pend]
    simp only [E.tm, nd]
    refine fn_in ?_; refine acl_in Try.func63 rfl isfn_63 (Nat.le_of_ble_eq_true rfl) (fun R hR => ?_); rw [Try.results63] at hR; refine wg_run ?_; (simp only [Try.f63, go_sem, mx0, mx])
    repeat' (first | (first | (simp only [go_sem, int_bne, mx0, mx]) | ((first | refine wd_split _ (fun hb => ?_) (fun hb => ?_) | refine wd_nwant _ (fun hb => ?_) (fun hb => ?_) | refine wm_nwant _ (fun hb => ?_) (fun hb => ?_) | refine wd_want _ (fun hb => ?_) (fun hb => ?_) | refine wm_want _ (fun hb => ?_) (fun hb => ?_) | refine wt_nwant _ (fun hb => ?_) (fun hb => ?_) | refine wt_want _ (fun hb => ?_) (fun hb => ?_)) <;> (simp only [go_sem, hb, int_bne, mx0, mx])) | (refine wm_done ?_; (simp only [go_sem, int_bne, mx0, mx])) | (refine wt_done ?_; (simp only [go_sem, int_bne, mx0, mx])) | (refine wg_run ?_; (simp only [go_sem, int_bne, mx0, mx])) | (refine wt_fork (by (simp only [go_sem]); first | done | rfl) ?_ ?_ <;> (simp only [go_sem, int_bne, mx0, mx]))) | (first | (refine wl_next (wg_run ?_); (simp only [go_sem])) | refine wd_rounds 6 ?_) | (first | refine wd_fn (by (simp only [go_sem]); first | done | rfl) (h1) ?_ | refine wm_fn (by (simp only [go_sem]); first | done | rfl) (h1) (by (simp only [go_sem]); first | done | rfl) (by (simp only [go_sem]); first | done | rfl) ?_ | refine wt_fn (by (simp only [go_sem]); first | done | rfl) (h1) (by (simp only [go_sem]); first | done | rfl) (by (simp only [go_sem]); first | done | rfl) ?_); (simp only [go_sem]) | (first | refine wd_fn (by (simp only [go_sem]); first | done | rfl) (h2) ?_ | refine wm_fn (by (simp only [go_sem]); first | done | rfl) (h2) (by (simp only [go_sem]); first | done | rfl) (by (simp only [go_sem]); first | done | rfl) ?_ | refine wt_fn (by (simp only [go_sem]); first | done | rfl) (h2) (by (simp only [go_sem]); first | done | rfl) (by (simp only [go_sem]); first | done | rfl) ?_); (simp only [go_sem]) | (first | refine wd_fn (by (simp only [go_sem]); first | done | rfl) (h3) ?_ | refine wm_fn (by (simp only [go_sem]); first | done | rfl) (h3) (by (simp only [go_sem]); first | done | rfl) (by (simp only [go_sem]); first | done | rfl) ?_ | refine wt_fn (by (simp only [go_sem]); first | done | rfl) (h3) (by (simp only [go_sem]); first | done | rfl) (by (simp only [go_sem]); first | done | rfl) ?_); (simp only [go_sem]) | fail)
    (refine hR _ ?_; refine ret_at [] (by (simp only [go_sem]); first | done | rfl) (by (simp only [go_sem]); first | done | rfl) ⟨?_, rfl⟩)
    simp only [mx0, mx]
  | cast s t l a ih =>
    intro k hk
    simp only [E.nodes] at hk
    have h1 := ih (k + 1) (by omega)
    have hw1 := wrap_succ (k := k) (n := 100000) (by omega) (by omega)
    simp only [E.pend]
    simp only [E.tm, nd]
    refine fn_in ?_; refine acl_in Try.func63 rfl isfn_63 (Nat.le_of_ble_eq_true rfl) (fun R hR => ?_); rw [Try.results63] at hR; refine wg_run ?_; (simp only [Try.f63, go_sem, hw1, mx])
    repeat' (first | (first | (simp only [go_sem, int_bne, hw1, mx]) | ((first | refine wd_split _ (fun hb => ?_) (fun hb => ?_) | refine wd_nwant _ (fun hb => ?_) (fun hb => ?_) | refine wm_nwant _ (fun hb => ?_) (fun hb => ?_) | refine wd_want _ (fun hb => ?_) (fun hb => ?_) | refine wm_want _ (fun hb => ?_) (fun hb => ?_) | refine wt_nwant _ (fun hb => ?_) (fun hb => ?_) | refine wt_want _ (fun hb => ?_) (fun hb => ?_)) <;> (simp only [go_sem, hb, int_bne, hw1, mx])) | (refine wm_done ?_; (simp only [go_sem, int_bne, hw1, mx])) | (refine wt_done ?_; (simp only [go_sem, int_bne, hw1, mx])) | (refine wg_run ?_; (simp only [go_sem, int_bne, hw1, mx])) | (refine wt_fork (by (simp only [go_sem]); first | done | rfl) ?_ ?_ <;> (simp only [go_sem, int_bne, hw1, mx]))) | (first | (refine wl_next (wg_run ?_); (simp only [go_sem])) | refine wd_rounds 6 ?_) | (first | refine wd_fn (by (simp only [go_sem]); first | done | rfl) (h1) ?_ | refine wm_fn (by (simp only [go_sem]); first | done | rfl) (h1) (by (simp only [go_sem]); first | done | rfl) (by (simp only [go_sem]); first | done | rfl) ?_ | refine wt_fn (by (simp only [go_sem]); first | done | rfl) (h1) (by (simp only [go_sem]); first | done | rfl) (by (simp only [go_sem]); first | done | rfl) ?_); (simp only [go_sem]) | fail)
    (refine hR _ ?_; refine ret_at [] (by (simp only [go_sem]); first | done | rfl) (by (simp only [go_sem]); first | done | rfl) ⟨?_, rfl⟩)
    simp only [mx]
theorem dgt (a b : Nat) : decide ((a : Int) > (b : Int)) = decide (b < a) := by simp
theorem sNested (e : E) : e.nodes < 100000 → AFn Try.prog 61 [.agg (teC e.tm)] (.one (.sc (.int .i64 (e.nest : Nat)))) := by
  induction e with
  | var _ | num _ | tru | fls =>
    intro hk
    simp only [E.nest]
    simp only [E.tm, nd]
    refine fn_in ?_; refine acl_in Try.func61 rfl isfn_61 (Nat.le_of_ble_eq_true rfl) (fun R hR => ?_); rw [Try.results61] at hR; refine wg_run ?_; (simp only [Try.f61, go_sem])
    repeat' (first | (first | (simp only [go_sem, int_bne]) | ((first | refine wd_split _ (fun hb => ?_) (fun hb => ?_) | refine wd_nwant _ (fun hb => ?_) (fun hb => ?_) | refine wm_nwant _ (fun hb => ?_) (fun hb => ?_) | refine wd_want _ (fun hb => ?_) (fun hb => ?_) | refine wm_want _ (fun hb => ?_) (fun hb => ?_) | refine wt_nwant _ (fun hb => ?_) (fun hb => ?_) | refine wt_want _ (fun hb => ?_) (fun hb => ?_)) <;> (simp only [go_sem, hb, int_bne])) | (refine wm_done ?_; (simp only [go_sem, int_bne])) | (refine wt_done ?_; (simp only [go_sem, int_bne])) | (refine wg_run ?_; (simp only [go_sem, int_bne])) | (refine wt_fork (by (simp only [go_sem]); first | done | rfl) ?_ ?_ <;> (simp only [go_sem, int_bne]))) | (first | (refine wl_next (wg_run ?_); (simp only [go_sem])) | refine wd_rounds 6 ?_) | fail)
    all_goals (refine hR _ ?_; refine ret_at [] (by (simp only [go_sem]); first | done | rfl) (by (simp only [go_sem]); first | done | rfl) ⟨rfl, rfl⟩)
  | lam _ _ a ih | fst a ih | snd a ih | asc _ a ih =>
    intro hk
    simp only [E.nodes] at hk
    have h1 := ih (by omega)
    simp only [E.nest]
    simp only [E.tm, nd]
    refine fn_in ?_; refine acl_in Try.func61 rfl isfn_61 (Nat.le_of_ble_eq_true rfl) (fun R hR => ?_); rw [Try.results61] at hR; refine wg_run ?_; (simp only [Try.f61, go_sem])
    repeat' (first | (first | (simp only [go_sem, int_bne]) | ((first | refine wd_split _ (fun hb => ?_) (fun hb => ?_) | refine wd_nwant _ (fun hb => ?_) (fun hb => ?_) | refine wm_nwant _ (fun hb => ?_) (fun hb => ?_) | refine wd_want _ (fun hb => ?_) (fun hb => ?_) | refine wm_want _ (fun hb => ?_) (fun hb => ?_) | refine wt_nwant _ (fun hb => ?_) (fun hb => ?_) | refine wt_want _ (fun hb => ?_) (fun hb => ?_)) <;> (simp only [go_sem, hb, int_bne])) | (refine wm_done ?_; (simp only [go_sem, int_bne])) | (refine wt_done ?_; (simp only [go_sem, int_bne])) | (refine wg_run ?_; (simp only [go_sem, int_bne])) | (refine wt_fork (by (simp only [go_sem]); first | done | rfl) ?_ ?_ <;> (simp only [go_sem, int_bne]))) | (first | (refine wl_next (wg_run ?_); (simp only [go_sem])) | refine wd_rounds 6 ?_) | (first | refine wd_fn (by (simp only [go_sem]); first | done | rfl) (h1) ?_ | refine wm_fn (by (simp only [go_sem]); first | done | rfl) (h1) (by (simp only [go_sem]); first | done | rfl) (by (simp only [go_sem]); first | done | rfl) ?_ | refine wt_fn (by (simp only [go_sem]); first | done | rfl) (h1) (by (simp only [go_sem]); first | done | rfl) (by (simp only [go_sem]); first | done | rfl) ?_); (simp only [go_sem]) | fail)
    all_goals (refine hR _ ?_; refine ret_at [] (by (simp only [go_sem]); first | done | rfl) (by (simp only [go_sem]); first | done | rfl) ⟨?_, rfl⟩)
    all_goals simp_all <;> omega
  | app a b iha ihb | add a b iha ihb | less a b iha ihb | pair a b iha ihb =>
    intro hk
    simp only [E.nodes] at hk
    have h1 := iha (by omega)
    have h2 := ihb (by omega)
    simp only [E.nest]
    simp only [E.tm, nd]
    refine fn_in ?_; refine acl_in Try.func61 rfl isfn_61 (Nat.le_of_ble_eq_true rfl) (fun R hR => ?_); rw [Try.results61] at hR; refine wg_run ?_; (simp only [Try.f61, go_sem])
    repeat' (first | (first | (simp only [go_sem, int_bne]) | ((first | refine wd_split _ (fun hb => ?_) (fun hb => ?_) | refine wd_nwant _ (fun hb => ?_) (fun hb => ?_) | refine wm_nwant _ (fun hb => ?_) (fun hb => ?_) | refine wd_want _ (fun hb => ?_) (fun hb => ?_) | refine wm_want _ (fun hb => ?_) (fun hb => ?_) | refine wt_nwant _ (fun hb => ?_) (fun hb => ?_) | refine wt_want _ (fun hb => ?_) (fun hb => ?_)) <;> (simp only [go_sem, hb, int_bne])) | (refine wm_done ?_; (simp only [go_sem, int_bne])) | (refine wt_done ?_; (simp only [go_sem, int_bne])) | (refine wg_run ?_; (simp only [go_sem, int_bne])) | (refine wt_fork (by (simp only [go_sem]); first | done | rfl) ?_ ?_ <;> (simp only [go_sem, int_bne]))) | (first | (refine wl_next (wg_run ?_); (simp only [go_sem])) | refine wd_rounds 6 ?_) | (first | refine wd_fn (by (simp only [go_sem]); first | done | rfl) (h1) ?_ | refine wm_fn (by (simp only [go_sem]); first | done | rfl) (h1) (by (simp only [go_sem]); first | done | rfl) (by (simp only [go_sem]); first | done | rfl) ?_ | refine wt_fn (by (simp only [go_sem]); first | done | rfl) (h1) (by (simp only [go_sem]); first | done | rfl) (by (simp only [go_sem]); first | done | rfl) ?_); (simp only [go_sem]) | (first | refine wd_fn (by (simp only [go_sem]); first | done | rfl) (h2) ?_ | refine wm_fn (by (simp only [go_sem]); first | done | rfl) (h2) (by (simp only [go_sem]); first | done | rfl) (by (simp only [go_sem]); first | done | rfl) ?_ | refine wt_fn (by (simp only [go_sem]); first | done | rfl) (h2) (by (simp only [go_sem]); first | done | rfl) (by (simp only [go_sem]); first | done | rfl) ?_); (simp only [go_sem]) | fail)
    all_goals (refine hR _ ?_; refine ret_at [] (by (simp only [go_sem]); first | done | rfl) (by (simp only [go_sem]); first | done | rfl) ⟨?_, rfl⟩)
    all_goals simp_all <;> omega
  | ite a b c iha ihb ihc =>
    intro hk
    simp only [E.nodes] at hk
    have h1 := iha (by omega)
    have h2 := ihb (by omega)
    have h3 := ihc (by omega)
    simp only [E.nest]
    simp only [E.tm, nd]
    refine fn_in ?_; refine acl_in Try.func61 rfl isfn_61 (Nat.le_of_ble_eq_true rfl) (fun R hR => ?_); rw [Try.results61] at hR; refine wg_run ?_; (simp only [Try.f61, go_sem])
    repeat' (first | (first | (simp only [go_sem, int_bne]) | ((first | refine wd_split _ (fun hb => ?_) (fun hb => ?_) | refine wd_nwant _ (fun hb => ?_) (fun hb => ?_) | refine wm_nwant _ (fun hb => ?_) (fun hb => ?_) | refine wd_want _ (fun hb => ?_) (fun hb => ?_) | refine wm_want _ (fun hb => ?_) (fun hb => ?_) | refine wt_nwant _ (fun hb => ?_) (fun hb => ?_) | refine wt_want _ (fun hb => ?_) (fun hb => ?_)) <;> (simp only [go_sem, hb, int_bne])) | (refine wm_done ?_; (simp only [go_sem, int_bne])) | (refine wt_done ?_; (simp only [go_sem, int_bne])) | (refine wg_run ?_; (simp only [go_sem, int_bne])) | (refine wt_fork (by (simp only [go_sem]); first | done | rfl) ?_ ?_ <;> (simp only [go_sem, int_bne]))) | (first | (refine wl_next (wg_run ?_); (simp only [go_sem])) | refine wd_rounds 6 ?_) | (first | refine wd_fn (by (simp only [go_sem]); first | done | rfl) (h1) ?_ | refine wm_fn (by (simp only [go_sem]); first | done | rfl) (h1) (by (simp only [go_sem]); first | done | rfl) (by (simp only [go_sem]); first | done | rfl) ?_ | refine wt_fn (by (simp only [go_sem]); first | done | rfl) (h1) (by (simp only [go_sem]); first | done | rfl) (by (simp only [go_sem]); first | done | rfl) ?_); (simp only [go_sem]) | (first | refine wd_fn (by (simp only [go_sem]); first | done | rfl) (h2) ?_ | refine wm_fn (by (simp only [go_sem]); first | done | rfl) (h2) (by (simp only [go_sem]); first | done | rfl) (by (simp only [go_sem]); first | done | rfl) ?_ | refine wt_fn (by (simp only [go_sem]); first | done | rfl) (h2) (by (simp only [go_sem]); first | done | rfl) (by (simp only [go_sem]); first | done | rfl) ?_); (simp only [go_sem]) | (first | refine wd_fn (by (simp only [go_sem]); first | done | rfl) (h3) ?_ | refine wm_fn (by (simp only [go_sem]); first | done | rfl) (h3) (by (simp only [go_sem]); first | done | rfl) (by (simp only [go_sem]); first | done | rfl) ?_ | refine wt_fn (by (simp only [go_sem]); first | done | rfl) (h3) (by (simp only [go_sem]); first | done | rfl) (by (simp only [go_sem]); first | done | rfl) ?_); (simp only [go_sem]) | fail)
    all_goals (refine hR _ ?_; refine ret_at [] (by (simp only [go_sem]); first | done | rfl) (by (simp only [go_sem]); first | done | rfl) ⟨?_, rfl⟩)
    all_goals simp_all <;> omega
  | cast s t l a ih =>
    intro hk
    simp only [E.nodes] at hk
    have h1 := ih (by omega)
    have hb1 := E.nest_nodes a
    simp only [E.nest]
    refine fn_in ?_; refine acl_in Try.func61 rfl isfn_61 (Nat.le_of_ble_eq_true rfl) (fun R hR => ?_); rw [Try.results61] at hR; refine wg_run ?_; (simp only [Try.f61, go_sem])
    repeat' (first | (first | (simp only [go_sem, int_bne]) | ((first | refine wd_split _ (fun hb => ?_) (fun hb => ?_) | refine wd_nwant _ (fun hb => ?_) (fun hb => ?_) | refine wm_nwant _ (fun hb => ?_) (fun hb => ?_) | refine wd_want _ (fun hb => ?_) (fun hb => ?_) | refine wm_want _ (fun hb => ?_) (fun hb => ?_) | refine wt_nwant _ (fun hb => ?_) (fun hb => ?_) | refine wt_want _ (fun hb => ?_) (fun hb => ?_)) <;> (simp only [go_sem, hb, int_bne])) | (refine wm_done ?_; (simp only [go_sem, int_bne])) | (refine wt_done ?_; (simp only [go_sem, int_bne])) | (refine wg_run ?_; (simp only [go_sem, int_bne])) | (refine wt_fork (by (simp only [go_sem]); first | done | rfl) ?_ ?_ <;> (simp only [go_sem, int_bne]))) | fail)
    refine wd_for [1, 3, 4, 5] (fun (s0 : Nat × E) => [.one (.ptr 9 0 0 0), .one (.sc (.int .i64 0)), .one (.sc (.int .i64 (s0.1 : Nat))), .one (.ptr 9 1 0 0)])
      (fun s0 => [⟨9, 28, .mut, [teC (E.cast s t l a).tm]⟩, ⟨9, 28, .mut, [teC s0.2.tm]⟩])
      (fun s0 => s0.1 + s0.2.lead = a.lead + 1) (fun s0 => s0.2.nodes) (0, E.cast s t l a) (by simp [E.lead]) (head_at [0, 1] (by (simp only [go_sem]); first | done | rfl) (by (simp only [go_sem]); first | done | rfl) ⟨rfl, rfl⟩) ?_
    rintro ⟨n, x⟩ hI G hG
    simp only [] at hI
    refine wg_run ?_
    cases x with
    | cast s' t' l' y =>
      simp only [E.lead] at hI
      have hw1 := wrap_succ (k := n) (n := 1000000) (by omega) (by omega)
      simp only [E.tm] at hG ⊢
      (simp only [go_sem])
      repeat' (first | (first | (simp only [go_sem, int_bne, hw1]) | ((first | refine wd_split _ (fun hb => ?_) (fun hb => ?_) | refine wd_nwant _ (fun hb => ?_) (fun hb => ?_) | refine wm_nwant _ (fun hb => ?_) (fun hb => ?_) | refine wd_want _ (fun hb => ?_) (fun hb => ?_) | refine wm_want _ (fun hb => ?_) (fun hb => ?_) | refine wt_nwant _ (fun hb => ?_) (fun hb => ?_) | refine wt_want _ (fun hb => ?_) (fun hb => ?_)) <;> (simp only [go_sem, hb, int_bne, hw1])) | (refine wm_done ?_; (simp only [go_sem, int_bne, hw1])) | (refine wt_done ?_; (simp only [go_sem, int_bne, hw1])) | (refine wg_run ?_; (simp only [go_sem, int_bne, hw1])) | (refine wt_fork (by (simp only [go_sem]); first | done | rfl) ?_ ?_ <;> (simp only [go_sem, int_bne, hw1]))) | fail)
      exact hG (n + 1, y) _ _ (by show n + 1 + y.lead = _; omega) (by show y.nodes < (E.cast s' t' l' y).nodes; simp only [E.nodes]; omega) (head_at [0, 2] (by (simp only [go_sem]); first | done | rfl) (by (simp only [go_sem]); first | done | rfl) ⟨rfl, rfl⟩)
    | _ =>
      simp only [E.lead] at hI
      obtain rfl : n = a.lead + 1 := by omega
      simp only [E.tm, nd] at h1 ⊢
      (simp only [go_sem])
      repeat' (first | (first | (simp only [go_sem, int_bne]) | ((first | refine wd_split _ (fun hb => ?_) (fun hb => ?_) | refine wd_nwant _ (fun hb => ?_) (fun hb => ?_) | refine wm_nwant _ (fun hb => ?_) (fun hb => ?_) | refine wd_want _ (fun hb => ?_) (fun hb => ?_) | refine wm_want _ (fun hb => ?_) (fun hb => ?_) | refine wt_nwant _ (fun hb => ?_) (fun hb => ?_) | refine wt_want _ (fun hb => ?_) (fun hb => ?_)) <;> (simp only [go_sem, hb, int_bne])) | (refine wm_done ?_; (simp only [go_sem, int_bne])) | (refine wt_done ?_; (simp only [go_sem, int_bne])) | (refine wg_run ?_; (simp only [go_sem, int_bne])) | (refine wt_fork (by (simp only [go_sem]); first | done | rfl) ?_ ?_ <;> (simp only [go_sem, int_bne]))) | (first | (refine wl_next (wg_run ?_); (simp only [go_sem])) | refine wd_rounds 6 ?_) | (first | refine wd_fn (by (simp only [go_sem]); first | done | rfl) (h1) ?_ | refine wm_fn (by (simp only [go_sem]); first | done | rfl) (h1) (by (simp only [go_sem]); first | done | rfl) (by (simp only [go_sem]); first | done | rfl) ?_ | refine wt_fn (by (simp only [go_sem]); first | done | rfl) (h1) (by (simp only [go_sem]); first | done | rfl) (by (simp only [go_sem]); first | done | rfl) ?_); (simp only [go_sem]) | fail)
      all_goals (refine hR _ ?_; refine ret_at [] (by (simp only [go_sem]); first | done | rfl) (by (simp only [go_sem]); first | done | rfl) ⟨?_, rfl⟩)
      all_goals simp_all <;> omega
theorem iReachP (e : E) (hk : e.nodes < 50000) (b : Nat) : ACl Try.prog 62 [.agg (teC e.tm), .one (.ptr 1 0 0 0)] [⟨1, 3, .mut, [[.sc (.int .i64 (b : Nat))]]⟩] (fun r H' => r = .tup [] ∧ H' = [⟨1, 3, .mut, [[.sc (.int .i64 ((max b e.nest : Nat) : Int))]]⟩]) := by
  have h1 := iPending e 0 (by omega)
  rw [E.pend_nest] at h1
  simp only [Int.natCast_zero, Int.cast_ofNat_Int] at h1
  refine acl_in Try.func62 rfl isfn_62 (Nat.le_of_ble_eq_true rfl) (fun R hR => ?_); rw [Try.results62] at hR; refine wg_run ?_; (simp only [Try.f62, go_sem])
  repeat' (first | (first | (simp only [go_sem, mx]) | ((first | refine wd_split _ (fun hb => ?_) (fun hb => ?_) | refine wd_nwant _ (fun hb => ?_) (fun hb => ?_) | refine wm_nwant _ (fun hb => ?_) (fun hb => ?_) | refine wd_want _ (fun hb => ?_) (fun hb => ?_) | refine wm_want _ (fun hb => ?_) (fun hb => ?_) | refine wt_nwant _ (fun hb => ?_) (fun hb => ?_) | refine wt_want _ (fun hb => ?_) (fun hb => ?_)) <;> (simp only [go_sem, hb, mx])) | (refine wm_done ?_; (simp only [go_sem, mx])) | (refine wt_done ?_; (simp only [go_sem, mx])) | (refine wg_run ?_; (simp only [go_sem, mx])) | (refine wt_fork (by (simp only [go_sem]); first | done | rfl) ?_ ?_ <;> (simp only [go_sem, mx]))) | ((first | refine wd_mix 6 [] follows (by decide +kernel) (by (simp only [go_sem]); first | done | rfl) ?_ | refine wd_mix 5 [] follows (by decide +kernel) (by (simp only [go_sem]); first | done | rfl) ?_ | refine wd_mix 4 [] follows (by decide +kernel) (by (simp only [go_sem]); first | done | rfl) ?_ | refine wd_mix 3 [] follows (by decide +kernel) (by (simp only [go_sem]); first | done | rfl) ?_ | refine wd_mix 2 [] follows (by decide +kernel) (by (simp only [go_sem]); first | done | rfl) ?_ | refine wd_mix 1 [] follows (by decide +kernel) (by (simp only [go_sem]); first | done | rfl) ?_ | refine wd_mix 0 [] follows (by decide +kernel) (by (simp only [go_sem]); first | done | rfl) ?_ | fail); (simp only [go_sem])) | (first | refine wd_fn (by (simp only [go_sem]); first | done | rfl) (h1) ?_ | refine wm_fn (by (simp only [go_sem]); first | done | rfl) (h1) (by (simp only [go_sem]); first | done | rfl) (by (simp only [go_sem]); first | done | rfl) ?_ | refine wt_fn (by (simp only [go_sem]); first | done | rfl) (h1) (by (simp only [go_sem]); first | done | rfl) (by (simp only [go_sem]); first | done | rfl) ?_); (simp only [go_sem]) | fail)
  refine hR _ (ret_at [] (by (simp only [go_sem]); first | done | rfl) (by (simp only [go_sem]); first | done | rfl) ⟨rfl, ?_⟩)
  simp only [mx]
def pendB (b : Nat) : List Blk := [⟨1, 3, .mut, [[.sc (.int .i64 (b : Nat))]]⟩]
theorem iEvalPend (e : E) (h : e.okC = true) (f : Nat) (hf : f ≤ 300) : ACl Try.prog 56 [.agg (teC e.tm), .one (.sc (.int .i64 (f : Nat))), .one (.fn 62 [.ptr 1 0 0 0])] (pendB 0)
    (fun r H' => (∃ (t : Tm) (c l : Int) (n : Nat), r = .tup [.agg (teC t), .one (.sc (.int .i64 c)), .one (.sc (.int .i64 l)), .one (.sc (.int .i64 (n : Nat)))]) ∧ H' = pendB (e.pI f e.nest)) := by
  have nodes : ∀ x : E, x.okC = true → x.nodes < 50000 := by
    intro x hx; simp only [E.okC, Bool.and_eq_true, decide_eq_true_eq] at hx; omega
  have h0 := iReachP e (nodes e h) 0
  rw [Nat.zero_max] at h0
  unfold pendB
  simp only [Int.natCast_zero, Int.cast_ofNat_Int] at h0 ⊢
  refine acl_in Try.func56 rfl isfn_56 (Nat.le_of_ble_eq_true rfl) (fun R hR => ?_); rw [Try.results56] at hR; refine wg_run ?_; (simp only [Try.f56, go_sem])
  repeat' (first | (first | ((first | refine wd_split _ (fun hb => ?_) (fun hb => ?_) | refine wd_nwant _ (fun hb => ?_) (fun hb => ?_) | refine wm_nwant _ (fun hb => ?_) (fun hb => ?_) | refine wd_want _ (fun hb => ?_) (fun hb => ?_) | refine wm_want _ (fun hb => ?_) (fun hb => ?_) | refine wt_nwant _ (fun hb => ?_) (fun hb => ?_) | refine wt_want _ (fun hb => ?_) (fun hb => ?_)) <;> (simp only [go_sem, hb])) | (refine wm_done ?_; (simp only [go_sem])) | (refine wt_done ?_; (simp only [go_sem])) | (refine wg_run ?_; (simp only [go_sem])) | (refine wt_fork (by (simp only [go_sem]); first | done | rfl) ?_ ?_ <;> (simp only [go_sem]))) | fail)
  ((first | refine wd_cl [0] (by (simp only [go_sem]); first | done | rfl) (h0) ?_ | refine wm_cl [0] (by (simp only [go_sem]); first | done | rfl) (h0) (by (simp only [go_sem]); first | done | rfl) (by (simp only [go_sem]); first | done | rfl) ?_ | refine wt_cl [0] (by (simp only [go_sem]); first | done | rfl) (h0) (by (simp only [go_sem]); first | done | rfl) (by (simp only [go_sem]); first | done | rfl) ?_); rintro _ _ ⟨rfl, rfl⟩ <;> (simp only [go_sem]))
  repeat' (first | (first | ((first | refine wd_split _ (fun hb => ?_) (fun hb => ?_) | refine wd_nwant _ (fun hb => ?_) (fun hb => ?_) | refine wm_nwant _ (fun hb => ?_) (fun hb => ?_) | refine wd_want _ (fun hb => ?_) (fun hb => ?_) | refine wm_want _ (fun hb => ?_) (fun hb => ?_) | refine wt_nwant _ (fun hb => ?_) (fun hb => ?_) | refine wt_want _ (fun hb => ?_) (fun hb => ?_)) <;> (simp only [go_sem, hb])) | (refine wm_done ?_; (simp only [go_sem])) | (refine wt_done ?_; (simp only [go_sem])) | (refine wg_run ?_; (simp only [go_sem])) | (refine wt_fork (by (simp only [go_sem]); first | done | rfl) ?_ ?_ <;> (simp only [go_sem]))) | fail)
  refine wd_for [1, 2, 3, 6, 7, 8, 9, 10] (fun (s : Nat × E × Nat) => [.one (.sc (.int .i64 (f : Nat))), .one (.fn 62 [.ptr 1 0 0 0]), .one (.ptr 9 1 0 0), .one (.ptr 9 2 0 0), .one (.sc (.int .i64 0)), .one (.sc (.int .i64 0)), .one (.sc (.int .i64 0)), .one (.sc (.int .i64 (s.1 : Nat)))])
    (fun s => [⟨1, 3, .mut, [[.sc (.int .i64 (s.2.2 : Nat))]]⟩, ⟨9, 28, .mut, [teC s.2.1.tm]⟩, ⟨9, 28, .mut, [[.sc (.int .i64 0), .sc (.string { data := { toList := [] } }), .sc (.int .i64 0), .sc (.int .i64 0), .sc (.slice none 0 0), .sc (.int .i64 0), .sc (.slice none 0 0), .sc (.int .i64 0), .sc (.slice none 0 0)]]⟩])
    (fun s => s.1 ≤ f ∧ s.2.1.okC = true ∧ s.2.1.pI (f - s.1) s.2.2 = e.pI f e.nest) (fun s => f - s.1) (0, e, e.nest) ⟨Nat.zero_le _, h, rfl⟩ (head_at [1, 2] (by (simp only [go_sem]); first | done | rfl) (by (simp only [go_sem]); first | done | rfl) ⟨rfl, rfl⟩) ?_
  rintro ⟨k, x, b⟩ ⟨hk, hx, hev⟩ G hG
  simp only [] at hk hx hev
  have hs := iStepCast x hx
  refine wg_run ?_
  cases hsc : x.sc with
  | took y =>
    rw [hsc] at hs
    simp only [scT, SC.tm, SC.code, SC.lab] at hs
    by_cases hkf : k = f
    · have hke : (((k : Nat) : Int) == (f : Int)) = true := by simp [hkf]
      rw [hkf, Nat.sub_self] at hev
      simp only [E.pI] at hev
      (simp only [go_sem, hke])
      repeat' (first | (first | (simp only [go_sem, int_bne, hke]) | ((first | refine wd_split _ (fun hb => ?_) (fun hb => ?_) | refine wd_nwant _ (fun hb => ?_) (fun hb => ?_) | refine wm_nwant _ (fun hb => ?_) (fun hb => ?_) | refine wd_want _ (fun hb => ?_) (fun hb => ?_) | refine wm_want _ (fun hb => ?_) (fun hb => ?_) | refine wt_nwant _ (fun hb => ?_) (fun hb => ?_) | refine wt_want _ (fun hb => ?_) (fun hb => ?_)) <;> (simp only [go_sem, hb, int_bne, hke])) | (refine wm_done ?_; (simp only [go_sem, int_bne, hke])) | (refine wt_done ?_; (simp only [go_sem, int_bne, hke])) | (refine wg_run ?_; (simp only [go_sem, int_bne, hke])) | (refine wt_fork (by (simp only [go_sem]); first | done | rfl) ?_ ?_ <;> (simp only [go_sem, int_bne, hke]))) | (first | refine wd_fn (by (simp only [go_sem]); first | done | rfl) (hs) ?_ | refine wm_fn (by (simp only [go_sem]); first | done | rfl) (hs) (by (simp only [go_sem]); first | done | rfl) (by (simp only [go_sem]); first | done | rfl) ?_ | refine wt_fn (by (simp only [go_sem]); first | done | rfl) (hs) (by (simp only [go_sem]); first | done | rfl) (by (simp only [go_sem]); first | done | rfl) ?_); (simp only [go_sem]) | fail)
      rw [← hev] at hR
      exact hR _ (ret_at [] (by (simp only [go_sem]); first | done | rfl) (by (simp only [go_sem]); first | done | rfl) ⟨⟨_, _, _, _, rfl⟩, rfl⟩)
    · have hke : (((k : Nat) : Int) == (f : Int)) = false := by simp; omega
      have hw1 := wrap_succ (k := k) (n := f) (by omega) (by omega)
      obtain ⟨m, hm⟩ : ∃ m, f - k = m + 1 := ⟨f - k - 1, by omega⟩
      rw [hm, E.pI_took hsc] at hev
      have hm2 : f - (k + 1) = m := by omega
      have hy := iReachP y (nodes y (E.sc_ok hsc)) b
      (simp only [go_sem, hke])
      repeat' (first | (first | (simp only [go_sem, int_bne, hke, hw1]) | ((first | refine wd_split _ (fun hb => ?_) (fun hb => ?_) | refine wd_nwant _ (fun hb => ?_) (fun hb => ?_) | refine wm_nwant _ (fun hb => ?_) (fun hb => ?_) | refine wd_want _ (fun hb => ?_) (fun hb => ?_) | refine wm_want _ (fun hb => ?_) (fun hb => ?_) | refine wt_nwant _ (fun hb => ?_) (fun hb => ?_) | refine wt_want _ (fun hb => ?_) (fun hb => ?_)) <;> (simp only [go_sem, hb, int_bne, hke, hw1])) | (refine wm_done ?_; (simp only [go_sem, int_bne, hke, hw1])) | (refine wt_done ?_; (simp only [go_sem, int_bne, hke, hw1])) | (refine wg_run ?_; (simp only [go_sem, int_bne, hke, hw1])) | (refine wt_fork (by (simp only [go_sem]); first | done | rfl) ?_ ?_ <;> (simp only [go_sem, int_bne, hke, hw1]))) | (first | refine wd_fn (by (simp only [go_sem]); first | done | rfl) (hs) ?_ | refine wm_fn (by (simp only [go_sem]); first | done | rfl) (hs) (by (simp only [go_sem]); first | done | rfl) (by (simp only [go_sem]); first | done | rfl) ?_ | refine wt_fn (by (simp only [go_sem]); first | done | rfl) (hs) (by (simp only [go_sem]); first | done | rfl) (by (simp only [go_sem]); first | done | rfl) ?_); (simp only [go_sem]) | ((first | refine wd_cl [0] (by (simp only [go_sem]); first | done | rfl) (hy) ?_ | refine wm_cl [0] (by (simp only [go_sem]); first | done | rfl) (hy) (by (simp only [go_sem]); first | done | rfl) (by (simp only [go_sem]); first | done | rfl) ?_ | refine wt_cl [0] (by (simp only [go_sem]); first | done | rfl) (hy) (by (simp only [go_sem]); first | done | rfl) (by (simp only [go_sem]); first | done | rfl) ?_); rintro _ _ ⟨rfl, rfl⟩ <;> (simp only [go_sem])) | fail)
      exact hG (k + 1, y, max b y.nest) _ _ ⟨by show k + 1 ≤ f; omega, E.sc_ok hsc, by show y.pI (f - (k + 1)) _ = _; rw [hm2]; exact hev⟩ (by show f - (k + 1) < f - k; omega) (head_at [1, 2] (by (simp only [go_sem]); first | done | rfl) (by (simp only [go_sem]); first | done | rfl) ⟨rfl, rfl⟩)
  | _ =>
    rw [E.pI_stop (fun y => by rw [hsc]; simp)] at hev
    rw [hsc] at hs
    simp only [scT, SC.tm, SC.code, SC.lab] at hs
    (try simp only [tm0, noTy] at hs)
    (simp only [go_sem])
    repeat' (first | (first | (simp only [go_sem, int_bne]) | ((first | refine wd_split _ (fun hb => ?_) (fun hb => ?_) | refine wd_nwant _ (fun hb => ?_) (fun hb => ?_) | refine wm_nwant _ (fun hb => ?_) (fun hb => ?_) | refine wd_want _ (fun hb => ?_) (fun hb => ?_) | refine wm_want _ (fun hb => ?_) (fun hb => ?_) | refine wt_nwant _ (fun hb => ?_) (fun hb => ?_) | refine wt_want _ (fun hb => ?_) (fun hb => ?_)) <;> (simp only [go_sem, hb, int_bne])) | (refine wm_done ?_; (simp only [go_sem, int_bne])) | (refine wt_done ?_; (simp only [go_sem, int_bne])) | (refine wg_run ?_; (simp only [go_sem, int_bne])) | (refine wt_fork (by (simp only [go_sem]); first | done | rfl) ?_ ?_ <;> (simp only [go_sem, int_bne]))) | (first | refine wd_fn (by (simp only [go_sem]); first | done | rfl) (hs) ?_ | refine wm_fn (by (simp only [go_sem]); first | done | rfl) (hs) (by (simp only [go_sem]); first | done | rfl) (by (simp only [go_sem]); first | done | rfl) ?_ | refine wt_fn (by (simp only [go_sem]); first | done | rfl) (hs) (by (simp only [go_sem]); first | done | rfl) (by (simp only [go_sem]); first | done | rfl) ?_); (simp only [go_sem]) | fail)
    rw [← hev] at hR
    exact hR _ (ret_at [] (by (simp only [go_sem]); first | done | rfl) (by (simp only [go_sem]); first | done | rfl) ⟨⟨_, _, _, k, rfl⟩, rfl⟩)
theorem iPendingCasts (t : Tm) (f : Int) : AFn Try.prog 19 [.agg (teC t), .one (.sc (.int .i64 f))] (.one (.sc (.int .i64 (Tm.pendV t f : Nat)))) := by
  have hf := iIsFuel f
  have hv := iCastV t
  cases hc : t.castV
  · rw [hc] at hv
    rw [Tm.pendV_bad hc]
    refine fn_in ?_; refine acl_in Try.func19 rfl isfn_19 (Nat.le_of_ble_eq_true rfl) (fun R hR => ?_); rw [Try.results19] at hR; refine wg_run ?_; (simp only [Try.f19, go_sem])
    repeat' (first | (first | ((first | refine wd_split _ (fun hb => ?_) (fun hb => ?_) | refine wd_nwant _ (fun hb => ?_) (fun hb => ?_) | refine wm_nwant _ (fun hb => ?_) (fun hb => ?_) | refine wd_want _ (fun hb => ?_) (fun hb => ?_) | refine wm_want _ (fun hb => ?_) (fun hb => ?_) | refine wt_nwant _ (fun hb => ?_) (fun hb => ?_) | refine wt_want _ (fun hb => ?_) (fun hb => ?_)) <;> (simp only [go_sem, hb])) | (refine wm_done ?_; (simp only [go_sem])) | (refine wt_done ?_; (simp only [go_sem])) | (refine wg_run ?_; (simp only [go_sem])) | (refine wt_fork (by (simp only [go_sem]); first | done | rfl) ?_ ?_ <;> (simp only [go_sem]))) | (first | refine wd_fn (by (simp only [go_sem]); first | done | rfl) (hv) ?_ | refine wm_fn (by (simp only [go_sem]); first | done | rfl) (hv) (by (simp only [go_sem]); first | done | rfl) (by (simp only [go_sem]); first | done | rfl) ?_ | refine wt_fn (by (simp only [go_sem]); first | done | rfl) (hv) (by (simp only [go_sem]); first | done | rfl) (by (simp only [go_sem]); first | done | rfl) ?_); (simp only [go_sem]) | (first | refine wd_fn (by (simp only [go_sem]); first | done | rfl) (hf) ?_ | refine wm_fn (by (simp only [go_sem]); first | done | rfl) (hf) (by (simp only [go_sem]); first | done | rfl) (by (simp only [go_sem]); first | done | rfl) ?_ | refine wt_fn (by (simp only [go_sem]); first | done | rfl) (hf) (by (simp only [go_sem]); first | done | rfl) (by (simp only [go_sem]); first | done | rfl) ?_); (simp only [go_sem]) | fail)
    all_goals (refine hR _ ?_; refine ret_at [] (by (simp only [go_sem]); first | done | rfl) (by (simp only [go_sem]); first | done | rfl) ⟨rfl, rfl⟩)
  · rw [hc] at hv
    cases hb : (decide (0 ≤ f) && decide (f ≤ 300))
    · rw [hb] at hf
      rw [Tm.pendV_off t hb]
      refine fn_in ?_; refine acl_in Try.func19 rfl isfn_19 (Nat.le_of_ble_eq_true rfl) (fun R hR => ?_); rw [Try.results19] at hR; refine wg_run ?_; (simp only [Try.f19, go_sem])
      repeat' (first | (first | ((first | refine wd_split _ (fun hb => ?_) (fun hb => ?_) | refine wd_nwant _ (fun hb => ?_) (fun hb => ?_) | refine wm_nwant _ (fun hb => ?_) (fun hb => ?_) | refine wd_want _ (fun hb => ?_) (fun hb => ?_) | refine wm_want _ (fun hb => ?_) (fun hb => ?_) | refine wt_nwant _ (fun hb => ?_) (fun hb => ?_) | refine wt_want _ (fun hb => ?_) (fun hb => ?_)) <;> (simp only [go_sem, hb])) | (refine wm_done ?_; (simp only [go_sem])) | (refine wt_done ?_; (simp only [go_sem])) | (refine wg_run ?_; (simp only [go_sem])) | (refine wt_fork (by (simp only [go_sem]); first | done | rfl) ?_ ?_ <;> (simp only [go_sem]))) | (first | refine wd_fn (by (simp only [go_sem]); first | done | rfl) (hv) ?_ | refine wm_fn (by (simp only [go_sem]); first | done | rfl) (hv) (by (simp only [go_sem]); first | done | rfl) (by (simp only [go_sem]); first | done | rfl) ?_ | refine wt_fn (by (simp only [go_sem]); first | done | rfl) (hv) (by (simp only [go_sem]); first | done | rfl) (by (simp only [go_sem]); first | done | rfl) ?_); (simp only [go_sem]) | (first | refine wd_fn (by (simp only [go_sem]); first | done | rfl) (hf) ?_ | refine wm_fn (by (simp only [go_sem]); first | done | rfl) (hf) (by (simp only [go_sem]); first | done | rfl) (by (simp only [go_sem]); first | done | rfl) ?_ | refine wt_fn (by (simp only [go_sem]); first | done | rfl) (hf) (by (simp only [go_sem]); first | done | rfl) (by (simp only [go_sem]); first | done | rfl) ?_); (simp only [go_sem]) | fail)
      all_goals (refine hR _ ?_; refine ret_at [] (by (simp only [go_sem]); first | done | rfl) (by (simp only [go_sem]); first | done | rfl) ⟨rfl, rfl⟩)
    · rw [hb] at hf
      simp only [Bool.and_eq_true, decide_eq_true_eq] at hb
      obtain ⟨e, rfl, ho⟩ := Tm.castV_E hc
      obtain ⟨n, rfl⟩ := Int.eq_ofNat_of_zero_le hb.1
      have he := iEvalPend e ho n (by omega)
      unfold pendB at he
      simp only [Int.natCast_zero, Int.cast_ofNat_Int] at he
      rw [Tm.pendV_E ho n (by omega)]
      refine fn_in ?_; refine acl_in Try.func19 rfl isfn_19 (Nat.le_of_ble_eq_true rfl) (fun R hR => ?_); rw [Try.results19] at hR; refine wg_run ?_; (simp only [Try.f19, go_sem])
      repeat' (first | (first | ((first | refine wd_split _ (fun hb => ?_) (fun hb => ?_) | refine wd_nwant _ (fun hb => ?_) (fun hb => ?_) | refine wm_nwant _ (fun hb => ?_) (fun hb => ?_) | refine wd_want _ (fun hb => ?_) (fun hb => ?_) | refine wm_want _ (fun hb => ?_) (fun hb => ?_) | refine wt_nwant _ (fun hb => ?_) (fun hb => ?_) | refine wt_want _ (fun hb => ?_) (fun hb => ?_)) <;> (simp only [go_sem, hb])) | (refine wm_done ?_; (simp only [go_sem])) | (refine wt_done ?_; (simp only [go_sem])) | (refine wg_run ?_; (simp only [go_sem])) | (refine wt_fork (by (simp only [go_sem]); first | done | rfl) ?_ ?_ <;> (simp only [go_sem]))) | (first | refine wd_fn (by (simp only [go_sem]); first | done | rfl) (hv) ?_ | refine wm_fn (by (simp only [go_sem]); first | done | rfl) (hv) (by (simp only [go_sem]); first | done | rfl) (by (simp only [go_sem]); first | done | rfl) ?_ | refine wt_fn (by (simp only [go_sem]); first | done | rfl) (hv) (by (simp only [go_sem]); first | done | rfl) (by (simp only [go_sem]); first | done | rfl) ?_); (simp only [go_sem]) | (first | refine wd_fn (by (simp only [go_sem]); first | done | rfl) (hf) ?_ | refine wm_fn (by (simp only [go_sem]); first | done | rfl) (hf) (by (simp only [go_sem]); first | done | rfl) (by (simp only [go_sem]); first | done | rfl) ?_ | refine wt_fn (by (simp only [go_sem]); first | done | rfl) (hf) (by (simp only [go_sem]); first | done | rfl) (by (simp only [go_sem]); first | done | rfl) ?_); (simp only [go_sem]) | ((first | refine wd_cl [1] (by (simp only [go_sem]); first | done | rfl) (he) ?_ | refine wm_cl [1] (by (simp only [go_sem]); first | done | rfl) (he) (by (simp only [go_sem]); first | done | rfl) (by (simp only [go_sem]); first | done | rfl) ?_ | refine wt_cl [1] (by (simp only [go_sem]); first | done | rfl) (he) (by (simp only [go_sem]); first | done | rfl) (by (simp only [go_sem]); first | done | rfl) ?_); rintro _ _ ⟨⟨t', c', l', n', rfl⟩, rfl⟩ <;> (simp only [go_sem])) | fail)
      all_goals (refine hR _ ?_; refine ret_at [] (by (simp only [go_sem]); first | done | rfl) (by (simp only [go_sem]); first | done | rfl) ⟨rfl, rfl⟩)
theorem sPendingCasts (t : Tm) (hz : t.size < 4611686018427387904) (f : Int) : AFn Try.prog 18 [.agg (teC t), .one (.sc (.int .i64 f))] (.one (.sc (.int .i64 (Tm.pendV t f : Nat)))) := by
  have hv := sCastV t hz
  have nodes : ∀ x : E, x.okC = true → x.nodes < 50000 := by
    intro x hx; simp only [E.okC, Bool.and_eq_true, decide_eq_true_eq] at hx; omega
  cases hc : t.castV
  · rw [hc] at hv
    rw [Tm.pendV_bad hc]
    refine fn_in ?_; refine acl_in Try.func18 rfl isfn_18 (Nat.le_of_ble_eq_true rfl) (fun R hR => ?_); rw [Try.results18] at hR; refine wg_run ?_; (simp only [Try.f18, go_sem])
    repeat' (first | (first | ((first | refine wd_split _ (fun hb => ?_) (fun hb => ?_) | refine wd_nwant _ (fun hb => ?_) (fun hb => ?_) | refine wm_nwant _ (fun hb => ?_) (fun hb => ?_) | refine wd_want _ (fun hb => ?_) (fun hb => ?_) | refine wm_want _ (fun hb => ?_) (fun hb => ?_) | refine wt_nwant _ (fun hb => ?_) (fun hb => ?_) | refine wt_want _ (fun hb => ?_) (fun hb => ?_)) <;> (simp only [go_sem, hb])) | (refine wm_done ?_; (simp only [go_sem])) | (refine wt_done ?_; (simp only [go_sem])) | (refine wg_run ?_; (simp only [go_sem])) | (refine wt_fork (by (simp only [go_sem]); first | done | rfl) ?_ ?_ <;> (simp only [go_sem]))) | (first | refine wd_fn (by (simp only [go_sem]); first | done | rfl) (hv) ?_ | refine wm_fn (by (simp only [go_sem]); first | done | rfl) (hv) (by (simp only [go_sem]); first | done | rfl) (by (simp only [go_sem]); first | done | rfl) ?_ | refine wt_fn (by (simp only [go_sem]); first | done | rfl) (hv) (by (simp only [go_sem]); first | done | rfl) (by (simp only [go_sem]); first | done | rfl) ?_); (simp only [go_sem]) | fail)
    all_goals (refine hR _ ?_; refine ret_at [] (by (simp only [go_sem]); first | done | rfl) (by (simp only [go_sem]); first | done | rfl) ⟨rfl, rfl⟩)
  · rw [hc] at hv
    cases hb : (decide (0 ≤ f) && decide (f ≤ 300))
    · rw [Tm.pendV_off t hb]
      by_cases h0 : f < 0
      · have d0 : decide (f < 0) = true := by simpa using h0
        refine fn_in ?_; refine acl_in Try.func18 rfl isfn_18 (Nat.le_of_ble_eq_true rfl) (fun R hR => ?_); rw [Try.results18] at hR; refine wg_run ?_; (simp only [Try.f18, go_sem, d0])
        repeat' (first | (first | (simp only [go_sem, d0]) | ((first | refine wd_split _ (fun hb => ?_) (fun hb => ?_) | refine wd_nwant _ (fun hb => ?_) (fun hb => ?_) | refine wm_nwant _ (fun hb => ?_) (fun hb => ?_) | refine wd_want _ (fun hb => ?_) (fun hb => ?_) | refine wm_want _ (fun hb => ?_) (fun hb => ?_) | refine wt_nwant _ (fun hb => ?_) (fun hb => ?_) | refine wt_want _ (fun hb => ?_) (fun hb => ?_)) <;> (simp only [go_sem, hb, d0])) | (refine wm_done ?_; (simp only [go_sem, d0])) | (refine wt_done ?_; (simp only [go_sem, d0])) | (refine wg_run ?_; (simp only [go_sem, d0])) | (refine wt_fork (by (simp only [go_sem]); first | done | rfl) ?_ ?_ <;> (simp only [go_sem, d0]))) | (first | refine wd_fn (by (simp only [go_sem]); first | done | rfl) (hv) ?_ | refine wm_fn (by (simp only [go_sem]); first | done | rfl) (hv) (by (simp only [go_sem]); first | done | rfl) (by (simp only [go_sem]); first | done | rfl) ?_ | refine wt_fn (by (simp only [go_sem]); first | done | rfl) (hv) (by (simp only [go_sem]); first | done | rfl) (by (simp only [go_sem]); first | done | rfl) ?_); (simp only [go_sem]) | fail)
        all_goals (refine hR _ ?_; refine ret_at [] (by (simp only [go_sem]); first | done | rfl) (by (simp only [go_sem]); first | done | rfl) ⟨rfl, rfl⟩)
      · have d0 : decide (f < 0) = false := by simpa using h0
        have d1 : decide (f > 300) = true := by simp at hb; simp; omega
        refine fn_in ?_; refine acl_in Try.func18 rfl isfn_18 (Nat.le_of_ble_eq_true rfl) (fun R hR => ?_); rw [Try.results18] at hR; refine wg_run ?_; (simp only [Try.f18, go_sem, d0, d1])
        repeat' (first | (first | (simp only [go_sem, d0, d1]) | ((first | refine wd_split _ (fun hb => ?_) (fun hb => ?_) | refine wd_nwant _ (fun hb => ?_) (fun hb => ?_) | refine wm_nwant _ (fun hb => ?_) (fun hb => ?_) | refine wd_want _ (fun hb => ?_) (fun hb => ?_) | refine wm_want _ (fun hb => ?_) (fun hb => ?_) | refine wt_nwant _ (fun hb => ?_) (fun hb => ?_) | refine wt_want _ (fun hb => ?_) (fun hb => ?_)) <;> (simp only [go_sem, hb, d0, d1])) | (refine wm_done ?_; (simp only [go_sem, d0, d1])) | (refine wt_done ?_; (simp only [go_sem, d0, d1])) | (refine wg_run ?_; (simp only [go_sem, d0, d1])) | (refine wt_fork (by (simp only [go_sem]); first | done | rfl) ?_ ?_ <;> (simp only [go_sem, d0, d1]))) | (first | refine wd_fn (by (simp only [go_sem]); first | done | rfl) (hv) ?_ | refine wm_fn (by (simp only [go_sem]); first | done | rfl) (hv) (by (simp only [go_sem]); first | done | rfl) (by (simp only [go_sem]); first | done | rfl) ?_ | refine wt_fn (by (simp only [go_sem]); first | done | rfl) (hv) (by (simp only [go_sem]); first | done | rfl) (by (simp only [go_sem]); first | done | rfl) ?_); (simp only [go_sem]) | fail)
        all_goals (refine hR _ ?_; refine ret_at [] (by (simp only [go_sem]); first | done | rfl) (by (simp only [go_sem]); first | done | rfl) ⟨rfl, rfl⟩)
    · simp only [Bool.and_eq_true, decide_eq_true_eq] at hb
      have d0 : decide (f < 0) = false := by simp; omega
      have d1 : decide (f > 300) = false := by simp; omega
      obtain ⟨e, rfl, ho⟩ := Tm.castV_E hc
      obtain ⟨n, rfl⟩ := Int.eq_ofNat_of_zero_le hb.1
      rw [Tm.pendV_E ho n (by omega)]
      have hn0 := sNested e (by have := nodes e ho; omega)
      refine fn_in ?_; refine acl_in Try.func18 rfl isfn_18 (Nat.le_of_ble_eq_true rfl) (fun R hR => ?_); rw [Try.results18] at hR; refine wg_run ?_; (simp only [Try.f18, go_sem, d0, d1])
      repeat' (first | (first | (simp only [go_sem, d0, d1]) | ((first | refine wd_split _ (fun hb => ?_) (fun hb => ?_) | refine wd_nwant _ (fun hb => ?_) (fun hb => ?_) | refine wm_nwant _ (fun hb => ?_) (fun hb => ?_) | refine wd_want _ (fun hb => ?_) (fun hb => ?_) | refine wm_want _ (fun hb => ?_) (fun hb => ?_) | refine wt_nwant _ (fun hb => ?_) (fun hb => ?_) | refine wt_want _ (fun hb => ?_) (fun hb => ?_)) <;> (simp only [go_sem, hb, d0, d1])) | (refine wm_done ?_; (simp only [go_sem, d0, d1])) | (refine wt_done ?_; (simp only [go_sem, d0, d1])) | (refine wg_run ?_; (simp only [go_sem, d0, d1])) | (refine wt_fork (by (simp only [go_sem]); first | done | rfl) ?_ ?_ <;> (simp only [go_sem, d0, d1]))) | (first | refine wd_fn (by (simp only [go_sem]); first | done | rfl) (hv) ?_ | refine wm_fn (by (simp only [go_sem]); first | done | rfl) (hv) (by (simp only [go_sem]); first | done | rfl) (by (simp only [go_sem]); first | done | rfl) ?_ | refine wt_fn (by (simp only [go_sem]); first | done | rfl) (hv) (by (simp only [go_sem]); first | done | rfl) (by (simp only [go_sem]); first | done | rfl) ?_); (simp only [go_sem]) | (first | refine wd_fn (by (simp only [go_sem]); first | done | rfl) (hn0) ?_ | refine wm_fn (by (simp only [go_sem]); first | done | rfl) (hn0) (by (simp only [go_sem]); first | done | rfl) (by (simp only [go_sem]); first | done | rfl) ?_ | refine wt_fn (by (simp only [go_sem]); first | done | rfl) (hn0) (by (simp only [go_sem]); first | done | rfl) (by (simp only [go_sem]); first | done | rfl) ?_); (simp only [go_sem]) | fail)
      refine wd_for [1, 2, 4, 5, 6] (fun (s : Nat × E × Nat) => [.one (.sc (.int .i64 (n : Nat))), .one (.ptr 9 0 0 0), .one (.sc (.int .i64 0)), .one (.sc (.int .i64 (s.2.2 : Nat))), .one (.sc (.int .i64 (s.1 : Nat)))])
        (fun s => [⟨9, 28, .mut, [teC s.2.1.tm]⟩])
        (fun s => s.1 ≤ n ∧ s.2.1.okC = true ∧ s.2.1.pI (n - s.1) s.2.2 = e.pI n e.nest) (fun s => n - s.1) (0, e, e.nest) ⟨Nat.zero_le _, ho, rfl⟩ (head_at [0] (by (simp only [go_sem]); first | done | rfl) (by (simp only [go_sem]); first | done | rfl) ⟨rfl, rfl⟩) ?_
      rintro ⟨k, x, b⟩ ⟨hk, hx, hev⟩ G hG
      simp only [] at hk hx hev
      have hs := sStepCast x hx
      refine wg_run ?_
      by_cases hkf : k = n
      · have hke : decide (((k : Nat) : Int) < (n : Int)) = false := by simp [hkf]
        have hz0 : n - k = 0 := by omega
        rw [hz0] at hev
        simp only [E.pI] at hev
        (simp only [go_sem, hke])
        repeat' (first | (first | (simp only [go_sem, int_bne, hke]) | ((first | refine wd_split _ (fun hb => ?_) (fun hb => ?_) | refine wd_nwant _ (fun hb => ?_) (fun hb => ?_) | refine wm_nwant _ (fun hb => ?_) (fun hb => ?_) | refine wd_want _ (fun hb => ?_) (fun hb => ?_) | refine wm_want _ (fun hb => ?_) (fun hb => ?_) | refine wt_nwant _ (fun hb => ?_) (fun hb => ?_) | refine wt_want _ (fun hb => ?_) (fun hb => ?_)) <;> (simp only [go_sem, hb, int_bne, hke])) | (refine wm_done ?_; (simp only [go_sem, int_bne, hke])) | (refine wt_done ?_; (simp only [go_sem, int_bne, hke])) | (refine wg_run ?_; (simp only [go_sem, int_bne, hke])) | (refine wt_fork (by (simp only [go_sem]); first | done | rfl) ?_ ?_ <;> (simp only [go_sem, int_bne, hke]))) | fail)
        rw [← hev] at hR
        all_goals (refine hR _ ?_; refine ret_at [] (by (simp only [go_sem]); first | done | rfl) (by (simp only [go_sem]); first | done | rfl) ⟨rfl, rfl⟩)
      · have hke : decide (((k : Nat) : Int) < (n : Int)) = true := by simp; omega
        cases hsc : x.sc with
        | took y =>
          rw [hsc] at hs
          simp only [scT, SC.tm, SC.code, SC.lab] at hs
          have hw1 := wrap_succ (k := k) (n := n) (by omega) (by omega)
          obtain ⟨m, hm⟩ : ∃ m, n - k = m + 1 := ⟨n - k - 1, by omega⟩
          rw [hm, E.pI_took hsc] at hev
          have hm2 : n - (k + 1) = m := by omega
          have hy := sNested y (by have := nodes y (E.sc_ok hsc); omega)
          by_cases hby : b < y.nest
          · have d2 : decide ((y.nest : Int) > (b : Int)) = true := by simp; omega
            have hmx : max b y.nest = y.nest := by omega
            rw [hmx] at hev
            (simp only [go_sem, hke])
            repeat' (first | (first | (simp only [go_sem, int_bne, hke, hw1, d2]) | ((first | refine wd_split _ (fun hb => ?_) (fun hb => ?_) | refine wd_nwant _ (fun hb => ?_) (fun hb => ?_) | refine wm_nwant _ (fun hb => ?_) (fun hb => ?_) | refine wd_want _ (fun hb => ?_) (fun hb => ?_) | refine wm_want _ (fun hb => ?_) (fun hb => ?_) | refine wt_nwant _ (fun hb => ?_) (fun hb => ?_) | refine wt_want _ (fun hb => ?_) (fun hb => ?_)) <;> (simp only [go_sem, hb, int_bne, hke, hw1, d2])) | (refine wm_done ?_; (simp only [go_sem, int_bne, hke, hw1, d2])) | (refine wt_done ?_; (simp only [go_sem, int_bne, hke, hw1, d2])) | (refine wg_run ?_; (simp only [go_sem, int_bne, hke, hw1, d2])) | (refine wt_fork (by (simp only [go_sem]); first | done | rfl) ?_ ?_ <;> (simp only [go_sem, int_bne, hke, hw1, d2]))) | (first | refine wd_fn (by (simp only [go_sem]); first | done | rfl) (hs) ?_ | refine wm_fn (by (simp only [go_sem]); first | done | rfl) (hs) (by (simp only [go_sem]); first | done | rfl) (by (simp only [go_sem]); first | done | rfl) ?_ | refine wt_fn (by (simp only [go_sem]); first | done | rfl) (hs) (by (simp only [go_sem]); first | done | rfl) (by (simp only [go_sem]); first | done | rfl) ?_); (simp only [go_sem]) | (first | refine wd_fn (by (simp only [go_sem]); first | done | rfl) (hy) ?_ | refine wm_fn (by (simp only [go_sem]); first | done | rfl) (hy) (by (simp only [go_sem]); first | done | rfl) (by (simp only [go_sem]); first | done | rfl) ?_ | refine wt_fn (by (simp only [go_sem]); first | done | rfl) (hy) (by (simp only [go_sem]); first | done | rfl) (by (simp only [go_sem]); first | done | rfl) ?_); (simp only [go_sem]) | fail)
            exact hG (k + 1, y, y.nest) _ _ ⟨by show k + 1 ≤ n; omega, E.sc_ok hsc, by show y.pI (n - (k + 1)) _ = _; rw [hm2]; exact hev⟩ (by show n - (k + 1) < n - k; omega) (head_at [0] (by (simp only [go_sem]); first | done | rfl) (by (simp only [go_sem]); first | done | rfl) ⟨rfl, rfl⟩)
          · have d2 : decide ((y.nest : Int) > (b : Int)) = false := by simp; omega
            have hmx : max b y.nest = b := by omega
            rw [hmx] at hev
            (simp only [go_sem, hke])
            repeat' (first | (first | (simp only [go_sem, int_bne, hke, hw1, d2]) | ((first | refine wd_split _ (fun hb => ?_) (fun hb => ?_) | refine wd_nwant _ (fun hb => ?_) (fun hb => ?_) | refine wm_nwant _ (fun hb => ?_) (fun hb => ?_) | refine wd_want _ (fun hb => ?_) (fun hb => ?_) | refine wm_want _ (fun hb => ?_) (fun hb => ?_) | refine wt_nwant _ (fun hb => ?_) (fun hb => ?_) | refine wt_want _ (fun hb => ?_) (fun hb => ?_)) <;> (simp only [go_sem, hb, int_bne, hke, hw1, d2])) | (refine wm_done ?_; (simp only [go_sem, int_bne, hke, hw1, d2])) | (refine wt_done ?_; (simp only [go_sem, int_bne, hke, hw1, d2])) | (refine wg_run ?_; (simp only [go_sem, int_bne, hke, hw1, d2])) | (refine wt_fork (by (simp only [go_sem]); first | done | rfl) ?_ ?_ <;> (simp only [go_sem, int_bne, hke, hw1, d2]))) | (first | refine wd_fn (by (simp only [go_sem]); first | done | rfl) (hs) ?_ | refine wm_fn (by (simp only [go_sem]); first | done | rfl) (hs) (by (simp only [go_sem]); first | done | rfl) (by (simp only [go_sem]); first | done | rfl) ?_ | refine wt_fn (by (simp only [go_sem]); first | done | rfl) (hs) (by (simp only [go_sem]); first | done | rfl) (by (simp only [go_sem]); first | done | rfl) ?_); (simp only [go_sem]) | (first | refine wd_fn (by (simp only [go_sem]); first | done | rfl) (hy) ?_ | refine wm_fn (by (simp only [go_sem]); first | done | rfl) (hy) (by (simp only [go_sem]); first | done | rfl) (by (simp only [go_sem]); first | done | rfl) ?_ | refine wt_fn (by (simp only [go_sem]); first | done | rfl) (hy) (by (simp only [go_sem]); first | done | rfl) (by (simp only [go_sem]); first | done | rfl) ?_); (simp only [go_sem]) | fail)
            exact hG (k + 1, y, b) _ _ ⟨by show k + 1 ≤ n; omega, E.sc_ok hsc, by show y.pI (n - (k + 1)) _ = _; rw [hm2]; exact hev⟩ (by show n - (k + 1) < n - k; omega) (head_at [0] (by (simp only [go_sem]); first | done | rfl) (by (simp only [go_sem]); first | done | rfl) ⟨rfl, rfl⟩)
        | _ =>
          rw [E.pI_stop (fun y => by rw [hsc]; simp)] at hev
          rw [hsc] at hs
          simp only [scT, SC.tm, SC.code, SC.lab] at hs
          (try simp only [tm0, noTy] at hs)
          (simp only [go_sem, hke])
          repeat' (first | (first | (simp only [go_sem, int_bne, hke]) | ((first | refine wd_split _ (fun hb => ?_) (fun hb => ?_) | refine wd_nwant _ (fun hb => ?_) (fun hb => ?_) | refine wm_nwant _ (fun hb => ?_) (fun hb => ?_) | refine wd_want _ (fun hb => ?_) (fun hb => ?_) | refine wm_want _ (fun hb => ?_) (fun hb => ?_) | refine wt_nwant _ (fun hb => ?_) (fun hb => ?_) | refine wt_want _ (fun hb => ?_) (fun hb => ?_)) <;> (simp only [go_sem, hb, int_bne, hke])) | (refine wm_done ?_; (simp only [go_sem, int_bne, hke])) | (refine wt_done ?_; (simp only [go_sem, int_bne, hke])) | (refine wg_run ?_; (simp only [go_sem, int_bne, hke])) | (refine wt_fork (by (simp only [go_sem]); first | done | rfl) ?_ ?_ <;> (simp only [go_sem, int_bne, hke]))) | (first | refine wd_fn (by (simp only [go_sem]); first | done | rfl) (hs) ?_ | refine wm_fn (by (simp only [go_sem]); first | done | rfl) (hs) (by (simp only [go_sem]); first | done | rfl) (by (simp only [go_sem]); first | done | rfl) ?_ | refine wt_fn (by (simp only [go_sem]); first | done | rfl) (hs) (by (simp only [go_sem]); first | done | rfl) (by (simp only [go_sem]); first | done | rfl) ?_); (simp only [go_sem]) | fail)
          rw [← hev] at hR
          all_goals (refine hR _ ?_; refine ret_at [] (by (simp only [go_sem]); first | done | rfl) (by (simp only [go_sem]); first | done | rfl) ⟨rfl, rfl⟩)
end Go.Proofs.Ytnaebafafhamjaa
