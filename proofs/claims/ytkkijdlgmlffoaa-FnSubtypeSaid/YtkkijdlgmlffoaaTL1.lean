/- The laws of subtyping, on shadows. -/
import Derived.Test.YtkkijdlgmlffoaaTF5
import Derived.Test.YtkkijdlgmlffoaaTF7
import Derived.Test.YtkkijdlgmlffoaaTD2
import Derived.Test.YtkkijdlgmlffoaaPl2
namespace Go.Proofs.Ytkkijdlgmlffoaa
open Go.RowKit Go.Proofs.Sh Go.Proofs.Grad
set_option maxRecDepth 100000
set_option maxHeartbeats 4000000
theorem lSubtype (l : List Int) (hc : ∀ k, 0 ≤ byte l k ∧ byte l k < 256) : AFn Try.prog 9 [.one (.sl (byR l))] (.one (.sc (.bool true))) := by
  by_cases hlen : 1048576 < l.length
  · have hg : decide (((l.length : Nat) : Int) > 1048576) = true := by simp; omega
    refine fn_in ?_; refine acl_in Try.func9 rfl isfn_9 (Nat.le_of_ble_eq_true rfl) (fun R hR => ?_); rw [Try.results9] at hR; refine wg_run ?_; (simp only [Try.f9, go_sem, hg])
    (refine hR _ (ret_at [] (by (simp only [go_sem]) <;> rfl) (by (simp only [go_sem]) <;> rfl) ⟨rfl, rfl⟩))
  · have hg : decide (((l.length : Nat) : Int) > 1048576) = false := by simp; omega
    have hd := dSubtype l ⟨by omega, hc⟩
    refine fn_in ?_; refine acl_in Try.func9 rfl isfn_9 (Nat.le_of_ble_eq_true rfl) (fun R hR => ?_); rw [Try.results9] at hR; refine wg_run ?_; (simp only [Try.f9, go_sem, hg])
    ((first | refine wd_cl [] (by (simp only [go_sem]) <;> rfl) (hd) ?_ | refine wm_cl [] (by (simp only [go_sem]) <;> rfl) (hd) (by (simp only [go_sem]) <;> rfl) (by (simp only [go_sem]) <;> rfl) ?_); rintro _ _ ⟨x, y, rfl, hx, hy, rfl⟩ <;> (simp only [go_sem]))
    have a1 := iSubtypeV x y
    have a2 := sSubtypeV x y
    have a3 := iPosV x y
    have a4 := iNegV x y
    have a5 := iSubtypeV x x
    have a6 := iValid x
    have a7 := sPosV x y
    have a8 := sNegV x y
    rw [onT_sub_pn] at a1 a2
    rw [onT_sub_refl] at a5
    generalize onT T.pos x y = bp at *
    generalize onT T.neg x y = bn at *
    generalize x.valid = bv at *
    cases bp <;> cases bn <;> cases bv
    all_goals
      repeat' (first | (first | ((first | refine wd_split _ (fun hb => ?_) (fun hb => ?_) | refine wd_nwant _ (fun hb => ?_) (fun hb => ?_) | refine wm_nwant _ (fun hb => ?_) (fun hb => ?_) | refine wd_want _ (fun hb => ?_) (fun hb => ?_) | refine wm_want _ (fun hb => ?_) (fun hb => ?_)) <;> (simp only [go_sem, hb])) | (refine wm_done ?_; (simp only [go_sem])) | (refine wg_run ?_; (simp only [go_sem]))) | (first | refine wd_fn (by (simp only [go_sem]) <;> rfl) (a1) ?_ | refine wm_fn (by (simp only [go_sem]) <;> rfl) (a1) (by (simp only [go_sem]) <;> rfl) (by (simp only [go_sem]) <;> rfl) ?_); (simp only [go_sem]) | (first | refine wd_fn (by (simp only [go_sem]) <;> rfl) (a2) ?_ | refine wm_fn (by (simp only [go_sem]) <;> rfl) (a2) (by (simp only [go_sem]) <;> rfl) (by (simp only [go_sem]) <;> rfl) ?_); (simp only [go_sem]) | (first | refine wd_fn (by (simp only [go_sem]) <;> rfl) (a3) ?_ | refine wm_fn (by (simp only [go_sem]) <;> rfl) (a3) (by (simp only [go_sem]) <;> rfl) (by (simp only [go_sem]) <;> rfl) ?_); (simp only [go_sem]) | (first | refine wd_fn (by (simp only [go_sem]) <;> rfl) (a4) ?_ | refine wm_fn (by (simp only [go_sem]) <;> rfl) (a4) (by (simp only [go_sem]) <;> rfl) (by (simp only [go_sem]) <;> rfl) ?_); (simp only [go_sem]) | (first | refine wd_fn (by (simp only [go_sem]) <;> rfl) (a5) ?_ | refine wm_fn (by (simp only [go_sem]) <;> rfl) (a5) (by (simp only [go_sem]) <;> rfl) (by (simp only [go_sem]) <;> rfl) ?_); (simp only [go_sem]) | (first | refine wd_fn (by (simp only [go_sem]) <;> rfl) (a6) ?_ | refine wm_fn (by (simp only [go_sem]) <;> rfl) (a6) (by (simp only [go_sem]) <;> rfl) (by (simp only [go_sem]) <;> rfl) ?_); (simp only [go_sem]) | (first | refine wd_fn (by (simp only [go_sem]) <;> rfl) (a7) ?_ | refine wm_fn (by (simp only [go_sem]) <;> rfl) (a7) (by (simp only [go_sem]) <;> rfl) (by (simp only [go_sem]) <;> rfl) ?_); (simp only [go_sem]) | (first | refine wd_fn (by (simp only [go_sem]) <;> rfl) (a8) ?_ | refine wm_fn (by (simp only [go_sem]) <;> rfl) (a8) (by (simp only [go_sem]) <;> rfl) (by (simp only [go_sem]) <;> rfl) ?_); (simp only [go_sem]) | ((first | refine wd_mix 6 [] follows (by decide +kernel) (by (simp only [go_sem]) <;> rfl) ?_ | refine wd_mix 5 [] follows (by decide +kernel) (by (simp only [go_sem]) <;> rfl) ?_ | refine wd_mix 4 [] follows (by decide +kernel) (by (simp only [go_sem]) <;> rfl) ?_ | refine wd_mix 3 [] follows (by decide +kernel) (by (simp only [go_sem]) <;> rfl) ?_ | refine wd_mix 2 [] follows (by decide +kernel) (by (simp only [go_sem]) <;> rfl) ?_ | refine wd_mix 1 [] follows (by decide +kernel) (by (simp only [go_sem]) <;> rfl) ?_ | refine wd_mix 0 [] follows (by decide +kernel) (by (simp only [go_sem]) <;> rfl) ?_); (simp only [go_sem])))
    all_goals (refine hR _ (ret_at [] (by (simp only [go_sem]) <;> rfl) (by (simp only [go_sem]) <;> rfl) ⟨rfl, rfl⟩))
end Go.Proofs.Ytkkijdlgmlffoaa
