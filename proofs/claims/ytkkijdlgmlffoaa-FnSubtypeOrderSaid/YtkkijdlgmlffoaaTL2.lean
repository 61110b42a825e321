/- FnSubtypeOrder, on shadows. -/
import Derived.Test.YtkkijdlgmlffoaaTF5
import Derived.Test.YtkkijdlgmlffoaaTF7
import Derived.Test.YtkkijdlgmlffoaaTD2
import Derived.Test.YtkkijdlgmlffoaaPl2
namespace Go.Proofs.Ytkkijdlgmlffoaa
open Go.RowKit Go.Proofs.Sh Go.Proofs.Grad
set_option maxRecDepth 100000
set_option maxHeartbeats 4000000
theorem lOrder (l m : List Int) (hc : ∀ k, 0 ≤ byte l k ∧ byte l k < 256) (hc' : ∀ k, 0 ≤ byte m k ∧ byte m k < 256) : AFn Try.prog 6 [.one (.sl (byR l)), .one (.sl (byR m))] (.one (.sc (.bool true))) := by
  by_cases hlen : 1048576 < l.length
  · have hg : decide (((l.length : Nat) : Int) > 1048576) = true := by simp; omega
    refine fn_in ?_; refine acl_in Try.func6 rfl isfn_6 (Nat.le_of_ble_eq_true rfl) (fun R hR => ?_); rw [Try.results6] at hR; refine wg_run ?_; (simp only [Try.f6, go_sem, hg])
    repeat' (first | ((first | refine wd_split _ (fun hb => ?_) (fun hb => ?_) | refine wd_nwant _ (fun hb => ?_) (fun hb => ?_) | refine wm_nwant _ (fun hb => ?_) (fun hb => ?_) | refine wd_want _ (fun hb => ?_) (fun hb => ?_) | refine wm_want _ (fun hb => ?_) (fun hb => ?_)) <;> (simp only [go_sem, hb])) | (refine wm_done ?_; (simp only [go_sem])) | (refine wg_run ?_; (simp only [go_sem])))
    all_goals (refine hR _ (ret_at [] (by (simp only [go_sem]) <;> rfl) (by (simp only [go_sem]) <;> rfl) ⟨rfl, rfl⟩))
  · have hg : decide (((l.length : Nat) : Int) > 1048576) = false := by simp; omega
    have hd := dSubtype l ⟨by omega, hc⟩
    by_cases hlen' : 1048576 < m.length
    · have hg' : decide (((m.length : Nat) : Int) > 1048576) = true := by simp; omega
      refine fn_in ?_; refine acl_in Try.func6 rfl isfn_6 (Nat.le_of_ble_eq_true rfl) (fun R hR => ?_); rw [Try.results6] at hR; refine wg_run ?_; (simp only [Try.f6, go_sem, hg, hg'])
      repeat' (first | ((first | refine wd_split _ (fun hb => ?_) (fun hb => ?_) | refine wd_nwant _ (fun hb => ?_) (fun hb => ?_) | refine wm_nwant _ (fun hb => ?_) (fun hb => ?_) | refine wd_want _ (fun hb => ?_) (fun hb => ?_) | refine wm_want _ (fun hb => ?_) (fun hb => ?_)) <;> (simp only [go_sem, hb])) | (refine wm_done ?_; (simp only [go_sem])) | (refine wg_run ?_; (simp only [go_sem])))
      all_goals (refine hR _ (ret_at [] (by (simp only [go_sem]) <;> rfl) (by (simp only [go_sem]) <;> rfl) ⟨rfl, rfl⟩))
    · have hg' : decide (((m.length : Nat) : Int) > 1048576) = false := by simp; omega
      have hd' := dSubtype m ⟨by omega, hc'⟩
      refine fn_in ?_; refine acl_in Try.func6 rfl isfn_6 (Nat.le_of_ble_eq_true rfl) (fun R hR => ?_); rw [Try.results6] at hR; refine wg_run ?_; (simp only [Try.f6, go_sem, hg, hg'])
      ((first | refine wd_cl [] (by (simp only [go_sem]) <;> rfl) (hd) ?_ | refine wm_cl [] (by (simp only [go_sem]) <;> rfl) (hd) (by (simp only [go_sem]) <;> rfl) (by (simp only [go_sem]) <;> rfl) ?_); rintro _ _ ⟨x, y, rfl, hx, hy, rfl⟩ <;> (simp only [go_sem]))
      ((first | refine wd_cl [] (by (simp only [go_sem]) <;> rfl) (hd') ?_ | refine wm_cl [] (by (simp only [go_sem]) <;> rfl) (hd') (by (simp only [go_sem]) <;> rfl) (by (simp only [go_sem]) <;> rfl) ?_); rintro _ _ ⟨u, v, rfl, hu, hv, rfl⟩ <;> (simp only [go_sem]))
      have a1 := iSubtypeV x y
      have a2 := sSubtypeV x y
      have a3 := iSubtypeV y u
      have a4 := iSubtypeV x u
      have a5 := iSubtypeV v x
      have a6 := iSubtypeV v y
      have a7 := iConsistent x y
      have h1 : onT T.sub x y = true → onT T.sub y u = true → onT T.sub x u = true := fun h h' => onT_sub_trans h h'
      have h2 : onT T.sub x y = true → onT T.sub v x = true → onT T.sub v y = true := fun h h' => onT_sub_trans h' h
      have h3 : onT T.sub x y = true → onT T.cons x y = true := fun h => onT_sub_cons h
      generalize onT T.sub x y = b1 at *
      generalize onT T.sub y u = b2 at *
      generalize onT T.sub x u = b3 at *
      generalize onT T.sub v x = b4 at *
      generalize onT T.sub v y = b5 at *
      generalize onT T.cons x y = b6 at *
      cases b1
      · repeat' (first | (first | ((first | refine wd_split _ (fun hb => ?_) (fun hb => ?_) | refine wd_nwant _ (fun hb => ?_) (fun hb => ?_) | refine wm_nwant _ (fun hb => ?_) (fun hb => ?_) | refine wd_want _ (fun hb => ?_) (fun hb => ?_) | refine wm_want _ (fun hb => ?_) (fun hb => ?_)) <;> (simp only [go_sem, hb])) | (refine wm_done ?_; (simp only [go_sem])) | (refine wg_run ?_; (simp only [go_sem]))) | (first | refine wd_fn (by (simp only [go_sem]) <;> rfl) (a1) ?_ | refine wm_fn (by (simp only [go_sem]) <;> rfl) (a1) (by (simp only [go_sem]) <;> rfl) (by (simp only [go_sem]) <;> rfl) ?_); (simp only [go_sem]) | (first | refine wd_fn (by (simp only [go_sem]) <;> rfl) (a2) ?_ | refine wm_fn (by (simp only [go_sem]) <;> rfl) (a2) (by (simp only [go_sem]) <;> rfl) (by (simp only [go_sem]) <;> rfl) ?_); (simp only [go_sem]) | ((first | refine wd_mix 6 [] follows (by decide +kernel) (by (simp only [go_sem]) <;> rfl) ?_ | refine wd_mix 5 [] follows (by decide +kernel) (by (simp only [go_sem]) <;> rfl) ?_ | refine wd_mix 4 [] follows (by decide +kernel) (by (simp only [go_sem]) <;> rfl) ?_ | refine wd_mix 3 [] follows (by decide +kernel) (by (simp only [go_sem]) <;> rfl) ?_ | refine wd_mix 2 [] follows (by decide +kernel) (by (simp only [go_sem]) <;> rfl) ?_ | refine wd_mix 1 [] follows (by decide +kernel) (by (simp only [go_sem]) <;> rfl) ?_ | refine wd_mix 0 [] follows (by decide +kernel) (by (simp only [go_sem]) <;> rfl) ?_); (simp only [go_sem])))
        all_goals (refine hR _ (ret_at [] (by (simp only [go_sem]) <;> rfl) (by (simp only [go_sem]) <;> rfl) ⟨rfl, rfl⟩))
      · cases b2 <;> cases b3 <;> cases b4 <;> cases b5 <;> cases b6 <;> first
          | (exfalso; revert h1 h2 h3; decide)
          | (repeat' (first | (first | ((first | refine wd_split _ (fun hb => ?_) (fun hb => ?_) | refine wd_nwant _ (fun hb => ?_) (fun hb => ?_) | refine wm_nwant _ (fun hb => ?_) (fun hb => ?_) | refine wd_want _ (fun hb => ?_) (fun hb => ?_) | refine wm_want _ (fun hb => ?_) (fun hb => ?_)) <;> (simp only [go_sem, hb])) | (refine wm_done ?_; (simp only [go_sem])) | (refine wg_run ?_; (simp only [go_sem]))) | (first | refine wd_fn (by (simp only [go_sem]) <;> rfl) (a1) ?_ | refine wm_fn (by (simp only [go_sem]) <;> rfl) (a1) (by (simp only [go_sem]) <;> rfl) (by (simp only [go_sem]) <;> rfl) ?_); (simp only [go_sem]) | (first | refine wd_fn (by (simp only [go_sem]) <;> rfl) (a2) ?_ | refine wm_fn (by (simp only [go_sem]) <;> rfl) (a2) (by (simp only [go_sem]) <;> rfl) (by (simp only [go_sem]) <;> rfl) ?_); (simp only [go_sem]) | (first | refine wd_fn (by (simp only [go_sem]) <;> rfl) (a3) ?_ | refine wm_fn (by (simp only [go_sem]) <;> rfl) (a3) (by (simp only [go_sem]) <;> rfl) (by (simp only [go_sem]) <;> rfl) ?_); (simp only [go_sem]) | (first | refine wd_fn (by (simp only [go_sem]) <;> rfl) (a4) ?_ | refine wm_fn (by (simp only [go_sem]) <;> rfl) (a4) (by (simp only [go_sem]) <;> rfl) (by (simp only [go_sem]) <;> rfl) ?_); (simp only [go_sem]) | (first | refine wd_fn (by (simp only [go_sem]) <;> rfl) (a5) ?_ | refine wm_fn (by (simp only [go_sem]) <;> rfl) (a5) (by (simp only [go_sem]) <;> rfl) (by (simp only [go_sem]) <;> rfl) ?_); (simp only [go_sem]) | (first | refine wd_fn (by (simp only [go_sem]) <;> rfl) (a6) ?_ | refine wm_fn (by (simp only [go_sem]) <;> rfl) (a6) (by (simp only [go_sem]) <;> rfl) (by (simp only [go_sem]) <;> rfl) ?_); (simp only [go_sem]) | (first | refine wd_fn (by (simp only [go_sem]) <;> rfl) (a7) ?_ | refine wm_fn (by (simp only [go_sem]) <;> rfl) (a7) (by (simp only [go_sem]) <;> rfl) (by (simp only [go_sem]) <;> rfl) ?_); (simp only [go_sem]) | ((first | refine wd_mix 6 [] follows (by decide +kernel) (by (simp only [go_sem]) <;> rfl) ?_ | refine wd_mix 5 [] follows (by decide +kernel) (by (simp only [go_sem]) <;> rfl) ?_ | refine wd_mix 4 [] follows (by decide +kernel) (by (simp only [go_sem]) <;> rfl) ?_ | refine wd_mix 3 [] follows (by decide +kernel) (by (simp only [go_sem]) <;> rfl) ?_ | refine wd_mix 2 [] follows (by decide +kernel) (by (simp only [go_sem]) <;> rfl) ?_ | refine wd_mix 1 [] follows (by decide +kernel) (by (simp only [go_sem]) <;> rfl) ?_ | refine wd_mix 0 [] follows (by decide +kernel) (by (simp only [go_sem]) <;> rfl) ?_); (simp only [go_sem])))
             all_goals (refine hR _ (ret_at [] (by (simp only [go_sem]) <;> rfl) (by (simp only [go_sem]) <;> rfl) ⟨rfl, rfl⟩)))
end Go.Proofs.Ytkkijdlgmlffoaa
