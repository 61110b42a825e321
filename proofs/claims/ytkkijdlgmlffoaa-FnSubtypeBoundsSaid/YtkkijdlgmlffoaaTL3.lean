/- FnSubtypeBounds, on shadows. -/
import Derived.Test.YtkkijdlgmlffoaaTF5
import Derived.Test.YtkkijdlgmlffoaaTF7
import Derived.Test.YtkkijdlgmlffoaaTD2
import Derived.Test.YtkkijdlgmlffoaaPl2
namespace Go.Proofs.Ytkkijdlgmlffoaa
open Go.RowKit Go.Proofs.Sh Go.Proofs.Grad
set_option maxRecDepth 100000
set_option maxHeartbeats 4000000
theorem onT_any_r (x : Ty) : onT T.pos x T.any.ty = x.valid := by
  by_cases ha : x.valid = true
  · obtain ⟨y, rfl, hy⟩ := (Ty.valid_iff x).1 ha
    rw [onT_ty _ hy (by decide), T.pos_any, ha]
  · rw [onT_and, Bool.eq_false_iff.2 ha]; rfl
theorem onT_any_l (x : Ty) : onT T.neg T.any.ty x = x.valid := by
  by_cases ha : x.valid = true
  · obtain ⟨y, rfl, hy⟩ := (Ty.valid_iff x).1 ha
    rw [onT_ty _ (by decide) hy, T.any_neg, ha]
  · rw [onT_and, Bool.eq_false_iff.2 ha]; simp
theorem onT_any_p (x : Ty) (h : x.valid = true) : onT T.pos T.any.ty x = T.any.ty.same x := by
  obtain ⟨y, rfl, hy⟩ := (Ty.valid_iff x).1 h
  rw [onT_ty _ (by decide) hy, T.any_pos, Bool.eq_iff_iff, decide_eq_true_iff, Ty.same_iff]
  exact ⟨fun e => by rw [e], fun e => (T.ty_inj _ _ e).symm⟩
theorem onT_static (x y : Ty) (hx : x.valid = true) (hy : y.valid = true) (h1 : x.count = 0) (h2 : y.count = 0) : onT T.sub x y = x.same y := by
  obtain ⟨a, rfl, ha⟩ := (Ty.valid_iff x).1 hx
  obtain ⟨b, rfl, hb⟩ := (Ty.valid_iff y).1 hy
  rw [T.count_ty] at h1 h2
  rw [onT_ty _ ha hb, Bool.eq_iff_iff, Ty.same_iff]
  rw [T.sub_static _ a b (Nat.lt_succ_self _) h1 h2, decide_eq_true_iff]
  exact ⟨fun e => by rw [e], fun e => T.ty_inj _ _ e⟩
theorem lBounds (l : List Int) (hc : ∀ k, 0 ≤ byte l k ∧ byte l k < 256) : AFn Try.prog 8 [.one (.sl (byR l))] (.one (.sc (.bool true))) := by
  by_cases hlen : 1048576 < l.length
  · have hg : decide (((l.length : Nat) : Int) > 1048576) = true := by simp; omega
    refine fn_in ?_; refine acl_in Try.func8 rfl isfn_8 (Nat.le_of_ble_eq_true rfl) (fun R hR => ?_); rw [Try.results8] at hR; refine wg_run ?_; (simp only [Try.f8, go_sem, hg])
    (refine hR _ (ret_at [] (by (simp only [go_sem]) <;> rfl) (by (simp only [go_sem]) <;> rfl) ⟨rfl, rfl⟩))
  · have hg : decide (((l.length : Nat) : Int) > 1048576) = false := by simp; omega
    have hd := dSubtype l ⟨by omega, hc⟩
    refine fn_in ?_; refine acl_in Try.func8 rfl isfn_8 (Nat.le_of_ble_eq_true rfl) (fun R hR => ?_); rw [Try.results8] at hR; refine wg_run ?_; (simp only [Try.f8, go_sem, hg])
    ((first | refine wd_cl [] (by (simp only [go_sem]) <;> rfl) (hd) ?_ | refine wm_cl [] (by (simp only [go_sem]) <;> rfl) (hd) (by (simp only [go_sem]) <;> rfl) (by (simp only [go_sem]) <;> rfl) ?_); rintro _ _ ⟨x, y, rfl, hx, hy, rfl⟩ <;> (simp only [go_sem]))
    have a1 := iSubtypeV x y
    have a2 := sSubtypeV x y
    have a3 := iValid x
    have a4 := iValid y
    have a5 := iStatic x
    have a6 := iStatic y
    have a7 := iSame _ (Nat.le_refl _) x y (by omega)
    have a8 := iPosV x T.any.ty
    have a9 := iNegV T.any.ty x
    have a10 := iPosV T.any.ty x
    have a11 := iSame _ (Nat.le_refl _) T.any.ty x (by decide)
    rw [onT_any_r] at a8
    rw [onT_any_l] at a9
    by_cases hvx : x.valid = true
    · rw [onT_any_p x hvx] at a10
      by_cases hvy : y.valid = true
      · have hst : decide (x.count = 0) = true → decide (y.count = 0) = true → onT T.sub x y = x.same y := fun h1 h2 => onT_static x y hvx hvy (of_decide_eq_true h1) (of_decide_eq_true h2)
        rw [hvx] at a3 a5 a8 a9
        rw [hvy] at a4 a6
        generalize onT T.sub x y = b1 at *
        generalize x.same y = b2 at *
        generalize T.any.ty.same x = b3 at *
        generalize decide (x.count = 0) = b4 at *
        generalize decide (y.count = 0) = b5 at *
        clear hvx hvy
        have key : b4 = false ∨ b5 = false ∨ (b4 = true ∧ b5 = true ∧ b1 = b2) := by revert hst; cases b4 <;> cases b5 <;> cases b1 <;> cases b2 <;> decide
        clear hst
        cases b3 <;> cases b1 <;> rcases key with rfl | rfl | ⟨rfl, rfl, rfl⟩
        all_goals
          (repeat' (first | (first | ((first | refine wd_split _ (fun hb => ?_) (fun hb => ?_) | refine wd_nwant _ (fun hb => ?_) (fun hb => ?_) | refine wm_nwant _ (fun hb => ?_) (fun hb => ?_) | refine wd_want _ (fun hb => ?_) (fun hb => ?_) | refine wm_want _ (fun hb => ?_) (fun hb => ?_)) <;> (simp only [go_sem, hb])) | (refine wm_done ?_; (simp only [go_sem])) | (refine wg_run ?_; (simp only [go_sem]))) | (first | refine wd_fn (by (simp only [go_sem]) <;> rfl) (a1) ?_ | refine wm_fn (by (simp only [go_sem]) <;> rfl) (a1) (by (simp only [go_sem]) <;> rfl) (by (simp only [go_sem]) <;> rfl) ?_); (simp only [go_sem]) | (first | refine wd_fn (by (simp only [go_sem]) <;> rfl) (a2) ?_ | refine wm_fn (by (simp only [go_sem]) <;> rfl) (a2) (by (simp only [go_sem]) <;> rfl) (by (simp only [go_sem]) <;> rfl) ?_); (simp only [go_sem]) | (first | refine wd_fn (by (simp only [go_sem]) <;> rfl) (a3) ?_ | refine wm_fn (by (simp only [go_sem]) <;> rfl) (a3) (by (simp only [go_sem]) <;> rfl) (by (simp only [go_sem]) <;> rfl) ?_); (simp only [go_sem]) | (first | refine wd_fn (by (simp only [go_sem]) <;> rfl) (a4) ?_ | refine wm_fn (by (simp only [go_sem]) <;> rfl) (a4) (by (simp only [go_sem]) <;> rfl) (by (simp only [go_sem]) <;> rfl) ?_); (simp only [go_sem]) | (first | refine wd_fn (by (simp only [go_sem]) <;> rfl) (a5) ?_ | refine wm_fn (by (simp only [go_sem]) <;> rfl) (a5) (by (simp only [go_sem]) <;> rfl) (by (simp only [go_sem]) <;> rfl) ?_); (simp only [go_sem]) | (first | refine wd_fn (by (simp only [go_sem]) <;> rfl) (a6) ?_ | refine wm_fn (by (simp only [go_sem]) <;> rfl) (a6) (by (simp only [go_sem]) <;> rfl) (by (simp only [go_sem]) <;> rfl) ?_); (simp only [go_sem]) | (first | refine wd_fn (by (simp only [go_sem]) <;> rfl) (a7) ?_ | refine wm_fn (by (simp only [go_sem]) <;> rfl) (a7) (by (simp only [go_sem]) <;> rfl) (by (simp only [go_sem]) <;> rfl) ?_); (simp only [go_sem]) | (first | refine wd_fn (by (simp only [go_sem]) <;> rfl) (a8) ?_ | refine wm_fn (by (simp only [go_sem]) <;> rfl) (a8) (by (simp only [go_sem]) <;> rfl) (by (simp only [go_sem]) <;> rfl) ?_); (simp only [go_sem]) | (first | refine wd_fn (by (simp only [go_sem]) <;> rfl) (a9) ?_ | refine wm_fn (by (simp only [go_sem]) <;> rfl) (a9) (by (simp only [go_sem]) <;> rfl) (by (simp only [go_sem]) <;> rfl) ?_); (simp only [go_sem]) | (first | refine wd_fn (by (simp only [go_sem]) <;> rfl) (a10) ?_ | refine wm_fn (by (simp only [go_sem]) <;> rfl) (a10) (by (simp only [go_sem]) <;> rfl) (by (simp only [go_sem]) <;> rfl) ?_); (simp only [go_sem]) | (first | refine wd_fn (by (simp only [go_sem]) <;> rfl) (a11) ?_ | refine wm_fn (by (simp only [go_sem]) <;> rfl) (a11) (by (simp only [go_sem]) <;> rfl) (by (simp only [go_sem]) <;> rfl) ?_); (simp only [go_sem]) | ((first | refine wd_mix 6 [] follows (by decide +kernel) (by (simp only [go_sem]) <;> rfl) ?_ | refine wd_mix 5 [] follows (by decide +kernel) (by (simp only [go_sem]) <;> rfl) ?_ | refine wd_mix 4 [] follows (by decide +kernel) (by (simp only [go_sem]) <;> rfl) ?_ | refine wd_mix 3 [] follows (by decide +kernel) (by (simp only [go_sem]) <;> rfl) ?_ | refine wd_mix 2 [] follows (by decide +kernel) (by (simp only [go_sem]) <;> rfl) ?_ | refine wd_mix 1 [] follows (by decide +kernel) (by (simp only [go_sem]) <;> rfl) ?_ | refine wd_mix 0 [] follows (by decide +kernel) (by (simp only [go_sem]) <;> rfl) ?_); (simp only [go_sem])))
           all_goals (refine hR _ (ret_at [] (by (simp only [go_sem]) <;> rfl) (by (simp only [go_sem]) <;> rfl) ⟨rfl, rfl⟩)))
      · rw [Bool.not_eq_true] at hvy
        rw [hvx] at a3
        rw [hvy] at a4
        generalize onT T.sub x y = b1 at *
        cases b1
        all_goals
          repeat' (first | (first | ((first | refine wd_split _ (fun hb => ?_) (fun hb => ?_) | refine wd_nwant _ (fun hb => ?_) (fun hb => ?_) | refine wm_nwant _ (fun hb => ?_) (fun hb => ?_) | refine wd_want _ (fun hb => ?_) (fun hb => ?_) | refine wm_want _ (fun hb => ?_) (fun hb => ?_)) <;> (simp only [go_sem, hb])) | (refine wm_done ?_; (simp only [go_sem])) | (refine wg_run ?_; (simp only [go_sem]))) | (first | refine wd_fn (by (simp only [go_sem]) <;> rfl) (a1) ?_ | refine wm_fn (by (simp only [go_sem]) <;> rfl) (a1) (by (simp only [go_sem]) <;> rfl) (by (simp only [go_sem]) <;> rfl) ?_); (simp only [go_sem]) | (first | refine wd_fn (by (simp only [go_sem]) <;> rfl) (a2) ?_ | refine wm_fn (by (simp only [go_sem]) <;> rfl) (a2) (by (simp only [go_sem]) <;> rfl) (by (simp only [go_sem]) <;> rfl) ?_); (simp only [go_sem]) | (first | refine wd_fn (by (simp only [go_sem]) <;> rfl) (a3) ?_ | refine wm_fn (by (simp only [go_sem]) <;> rfl) (a3) (by (simp only [go_sem]) <;> rfl) (by (simp only [go_sem]) <;> rfl) ?_); (simp only [go_sem]) | (first | refine wd_fn (by (simp only [go_sem]) <;> rfl) (a4) ?_ | refine wm_fn (by (simp only [go_sem]) <;> rfl) (a4) (by (simp only [go_sem]) <;> rfl) (by (simp only [go_sem]) <;> rfl) ?_); (simp only [go_sem]) | ((first | refine wd_mix 6 [] follows (by decide +kernel) (by (simp only [go_sem]) <;> rfl) ?_ | refine wd_mix 5 [] follows (by decide +kernel) (by (simp only [go_sem]) <;> rfl) ?_ | refine wd_mix 4 [] follows (by decide +kernel) (by (simp only [go_sem]) <;> rfl) ?_ | refine wd_mix 3 [] follows (by decide +kernel) (by (simp only [go_sem]) <;> rfl) ?_ | refine wd_mix 2 [] follows (by decide +kernel) (by (simp only [go_sem]) <;> rfl) ?_ | refine wd_mix 1 [] follows (by decide +kernel) (by (simp only [go_sem]) <;> rfl) ?_ | refine wd_mix 0 [] follows (by decide +kernel) (by (simp only [go_sem]) <;> rfl) ?_); (simp only [go_sem])))
        all_goals (refine hR _ (ret_at [] (by (simp only [go_sem]) <;> rfl) (by (simp only [go_sem]) <;> rfl) ⟨rfl, rfl⟩))
    · rw [Bool.not_eq_true] at hvx
      rw [hvx] at a3
      generalize onT T.sub x y = b1 at *
      cases b1
      all_goals
        repeat' (first | (first | ((first | refine wd_split _ (fun hb => ?_) (fun hb => ?_) | refine wd_nwant _ (fun hb => ?_) (fun hb => ?_) | refine wm_nwant _ (fun hb => ?_) (fun hb => ?_) | refine wd_want _ (fun hb => ?_) (fun hb => ?_) | refine wm_want _ (fun hb => ?_) (fun hb => ?_)) <;> (simp only [go_sem, hb])) | (refine wm_done ?_; (simp only [go_sem])) | (refine wg_run ?_; (simp only [go_sem]))) | (first | refine wd_fn (by (simp only [go_sem]) <;> rfl) (a1) ?_ | refine wm_fn (by (simp only [go_sem]) <;> rfl) (a1) (by (simp only [go_sem]) <;> rfl) (by (simp only [go_sem]) <;> rfl) ?_); (simp only [go_sem]) | (first | refine wd_fn (by (simp only [go_sem]) <;> rfl) (a2) ?_ | refine wm_fn (by (simp only [go_sem]) <;> rfl) (a2) (by (simp only [go_sem]) <;> rfl) (by (simp only [go_sem]) <;> rfl) ?_); (simp only [go_sem]) | (first | refine wd_fn (by (simp only [go_sem]) <;> rfl) (a3) ?_ | refine wm_fn (by (simp only [go_sem]) <;> rfl) (a3) (by (simp only [go_sem]) <;> rfl) (by (simp only [go_sem]) <;> rfl) ?_); (simp only [go_sem]) | ((first | refine wd_mix 6 [] follows (by decide +kernel) (by (simp only [go_sem]) <;> rfl) ?_ | refine wd_mix 5 [] follows (by decide +kernel) (by (simp only [go_sem]) <;> rfl) ?_ | refine wd_mix 4 [] follows (by decide +kernel) (by (simp only [go_sem]) <;> rfl) ?_ | refine wd_mix 3 [] follows (by decide +kernel) (by (simp only [go_sem]) <;> rfl) ?_ | refine wd_mix 2 [] follows (by decide +kernel) (by (simp only [go_sem]) <;> rfl) ?_ | refine wd_mix 1 [] follows (by decide +kernel) (by (simp only [go_sem]) <;> rfl) ?_ | refine wd_mix 0 [] follows (by decide +kernel) (by (simp only [go_sem]) <;> rfl) ?_); (simp only [go_sem])))
      all_goals (refine hR _ (ret_at [] (by (simp only [go_sem]) <;> rfl) (by (simp only [go_sem]) <;> rfl) ⟨rfl, rfl⟩))
end Go.Proofs.Ytkkijdlgmlffoaa
