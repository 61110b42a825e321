/- FnExactPendingCasts: for every term and number the law returns true, and its arguments read afterwards as they read before. No conditions. -/
import Derived.Test.YtnaebafafhamjaaK13
import Derived.Test.YtnaebafafhamjaaK14
import Derived.Test.YtnaebafafhamjaaK15
set_option linter.unusedSimpArgs false
set_option linter.unusedVariables false
namespace Go.Proofs.Ytnaebafafhamjaa
open Go.RowKit Go.Proofs.Sh Go.Proofs.Grad
open Go.ChangeShapes Go.WideShapes Go.ChangeAt

set_option maxRecDepth 100000
set_option maxHeartbeats 4000000
theorem fnExactPendingCasts_walk (a : Tm) (hfa : a.fits) (b : Int) (hlb : -9223372036854775808 ≤ b ∧ b ≤ 9223372036854775807) : AFn Try.prog 5 [.agg (teC a), .one (.sc (.int .i64 b))] (.one (.sc (.bool true))) := by
  have hs := szTm _ a (Nat.lt_succ_self _) hfa 1048576 (by omega) (by omega)
  by_cases hw : (a.wt : Int) ≤ 1048576
  · have e1 : szR a.wt 1048576 = 1048576 - (a.wt : Int) := by unfold szR; rw [if_pos hw]
    rw [e1] at hs
    have d1 : decide (1048576 - (a.wt : Int) < 0) = false := by simp; omega
    have h9a : a.size < 100000000 := by have := a.size_wt; omega
    have ht := toTm 100000000 (by omega) a h9a
    have he := eqTm 100000000 (by omega) a a h9a
    rw [Tm.same_refl] at he
    have hi := iPendingCasts a b
    have hs2 := sPendingCasts a (by omega) b
    refine fn_in ?_; refine acl_in Try.func5 rfl isfn_5 (Nat.le_of_ble_eq_true rfl) (fun R hR => ?_); rw [Try.results5] at hR; refine wg_run ?_; (simp only [Try.f5, go_sem])
    repeat' (first | (first | (simp only [go_sem, d1, int_bne]) | ((first | refine wd_split _ (fun hb => ?_) (fun hb => ?_) | refine wd_nwant _ (fun hb => ?_) (fun hb => ?_) | refine wm_nwant _ (fun hb => ?_) (fun hb => ?_) | refine wd_want _ (fun hb => ?_) (fun hb => ?_) | refine wm_want _ (fun hb => ?_) (fun hb => ?_) | refine wt_nwant _ (fun hb => ?_) (fun hb => ?_) | refine wt_want _ (fun hb => ?_) (fun hb => ?_)) <;> (simp only [go_sem, hb, d1, int_bne])) | (refine wm_done ?_; (simp only [go_sem, d1, int_bne])) | (refine wt_done ?_; (simp only [go_sem, d1, int_bne])) | (refine wg_run ?_; (simp only [go_sem, d1, int_bne])) | (refine wt_fork (by (simp only [go_sem]); first | done | rfl) ?_ ?_ <;> (simp only [go_sem, d1, int_bne]))) | ((first | refine wd_mix 6 [] follows (by decide +kernel) (by (simp only [go_sem]); first | done | rfl) ?_ | refine wd_mix 5 [] follows (by decide +kernel) (by (simp only [go_sem]); first | done | rfl) ?_ | refine wd_mix 4 [] follows (by decide +kernel) (by (simp only [go_sem]); first | done | rfl) ?_ | refine wd_mix 3 [] follows (by decide +kernel) (by (simp only [go_sem]); first | done | rfl) ?_ | refine wd_mix 2 [] follows (by decide +kernel) (by (simp only [go_sem]); first | done | rfl) ?_ | refine wd_mix 1 [] follows (by decide +kernel) (by (simp only [go_sem]); first | done | rfl) ?_ | refine wd_mix 0 [] follows (by decide +kernel) (by (simp only [go_sem]); first | done | rfl) ?_ | fail); (simp only [go_sem, d1])) | (first | refine wd_fn (by (simp only [go_sem]); first | done | rfl) (hs) ?_ | refine wm_fn (by (simp only [go_sem]); first | done | rfl) (hs) (by (simp only [go_sem]); first | done | rfl) (by (simp only [go_sem]); first | done | rfl) ?_ | refine wt_fn (by (simp only [go_sem]); first | done | rfl) (hs) (by (simp only [go_sem]); first | done | rfl) (by (simp only [go_sem]); first | done | rfl) ?_); (simp only [go_sem]) | (first | refine wd_fn (by (simp only [go_sem]); first | done | rfl) (ht) ?_ | refine wm_fn (by (simp only [go_sem]); first | done | rfl) (ht) (by (simp only [go_sem]); first | done | rfl) (by (simp only [go_sem]); first | done | rfl) ?_ | refine wt_fn (by (simp only [go_sem]); first | done | rfl) (ht) (by (simp only [go_sem]); first | done | rfl) (by (simp only [go_sem]); first | done | rfl) ?_); (simp only [go_sem]) | (first | refine wd_fn (by (simp only [go_sem]); first | done | rfl) (he) ?_ | refine wm_fn (by (simp only [go_sem]); first | done | rfl) (he) (by (simp only [go_sem]); first | done | rfl) (by (simp only [go_sem]); first | done | rfl) ?_ | refine wt_fn (by (simp only [go_sem]); first | done | rfl) (he) (by (simp only [go_sem]); first | done | rfl) (by (simp only [go_sem]); first | done | rfl) ?_); (simp only [go_sem]) | (first | refine wd_fn (by (simp only [go_sem]); first | done | rfl) (hi) ?_ | refine wm_fn (by (simp only [go_sem]); first | done | rfl) (hi) (by (simp only [go_sem]); first | done | rfl) (by (simp only [go_sem]); first | done | rfl) ?_ | refine wt_fn (by (simp only [go_sem]); first | done | rfl) (hi) (by (simp only [go_sem]); first | done | rfl) (by (simp only [go_sem]); first | done | rfl) ?_); (simp only [go_sem]) | (first | refine wd_fn (by (simp only [go_sem]); first | done | rfl) (hs2) ?_ | refine wm_fn (by (simp only [go_sem]); first | done | rfl) (hs2) (by (simp only [go_sem]); first | done | rfl) (by (simp only [go_sem]); first | done | rfl) ?_ | refine wt_fn (by (simp only [go_sem]); first | done | rfl) (hs2) (by (simp only [go_sem]); first | done | rfl) (by (simp only [go_sem]); first | done | rfl) ?_); (simp only [go_sem]))
    (refine hR _ (ret_at [] (by (simp only [go_sem]); first | done | rfl) (by (simp only [go_sem]); first | done | rfl) ⟨rfl, rfl⟩))
  · have e1 : szR a.wt 1048576 = -1 := by unfold szR; rw [if_neg hw]
    rw [e1] at hs
    refine fn_in ?_; refine acl_in Try.func5 rfl isfn_5 (Nat.le_of_ble_eq_true rfl) (fun R hR => ?_); rw [Try.results5] at hR; refine wg_run ?_; (simp only [Try.f5, go_sem])
    repeat' (first | (first | ((first | refine wd_split _ (fun hb => ?_) (fun hb => ?_) | refine wd_nwant _ (fun hb => ?_) (fun hb => ?_) | refine wm_nwant _ (fun hb => ?_) (fun hb => ?_) | refine wd_want _ (fun hb => ?_) (fun hb => ?_) | refine wm_want _ (fun hb => ?_) (fun hb => ?_) | refine wt_nwant _ (fun hb => ?_) (fun hb => ?_) | refine wt_want _ (fun hb => ?_) (fun hb => ?_)) <;> (simp only [go_sem, hb])) | (refine wm_done ?_; (simp only [go_sem])) | (refine wt_done ?_; (simp only [go_sem])) | (refine wg_run ?_; (simp only [go_sem])) | (refine wt_fork (by (simp only [go_sem]); first | done | rfl) ?_ ?_ <;> (simp only [go_sem]))) | (first | refine wd_fn (by (simp only [go_sem]); first | done | rfl) (hs) ?_ | refine wm_fn (by (simp only [go_sem]); first | done | rfl) (hs) (by (simp only [go_sem]); first | done | rfl) (by (simp only [go_sem]); first | done | rfl) ?_ | refine wt_fn (by (simp only [go_sem]); first | done | rfl) (hs) (by (simp only [go_sem]); first | done | rfl) (by (simp only [go_sem]); first | done | rfl) ?_); (simp only [go_sem]))
    (refine hR _ (ret_at [] (by (simp only [go_sem]); first | done | rfl) (by (simp only [go_sem]); first | done | rfl) ⟨rfl, rfl⟩))

set_option maxRecDepth 100000 in
theorem fnExactPendingCasts_lifted (os : Os) (started : os.Started) (H : Type) (enc : TypeId × Value → H) :
    ReturnsInHanded {} Try.checked os 5 .any (Rows.fnExactPendingCastsSpec.pre6 enc Try.prog Try.f5 Rows.fnExactPendingCastsRow.domain false) (Rows.fnExactPendingCastsSpec.post enc Try.prog Try.f5 false true false false) := by
  refine returnsInHanded_of_change (C := Try.checked) ownKT started (by kernel_rfl) Try.func5
    (ChangeSpec.witness6 (enc := enc) (C := Try.checked) false ⟨#[], #[.agg #[.int .i64 0, .string ⟨#[]⟩, .int .i64 0, .int .i64 0, .slice none 0 0, .int .i64 0, .slice none 0 0, .int .i64 0, .slice none 0 0], .int .i64 0], []⟩ 8 (by kernel_rfl) (by kernel_rfl) (by kernel_rfl) (by kernel_rfl)) ?_
  intro W base args ds gs before hval0 hW hcnd _
  have hval : ∀ (j : Nat) t v, Try.f5.params[j]? = some t → args[j]? = some v → Value.okWide Try.prog W .any base t v := hval0
  have hW' := hW
  obtain ⟨p, q, hA0, hV, rfl, hfz, hnd⟩ := hW
  have hA : DataW.TrodAll enc Try.prog W 0 (fun _ => true) true Try.f5.params.toList args.toList ds p := hA0
  rw [Try.params5] at hA hval
  obtain ⟨v0, v1, d0, d1, p0, p1, rfl, rfl, rfl, h0, h1⟩ := trodAll_two hA
  obtain ⟨rfl, rfl⟩ := trodVars_none hV
  obtain ⟨x0, hr0, hf0⟩ := open_TmS (hval 0 40 v0 rfl rfl) h0
  obtain ⟨x1, rfl, hf1⟩ := open_IntS (hval 1 3 v1 rfl rfl) h1
  clear hA0 hval0
  simp only [List.append_nil] at hW'
  refine (lawCalls (fnExactPendingCasts_walk x0 hf0 x1 hf1) (vs := #[v0, .int .i64 x1]) (by simp only [AV.repl]; exact ⟨_, _, rfl, hr0, _, _, rfl, by rw [AV.rep, C.rep]; exact ⟨rfl, rfl⟩, rfl⟩)).mono fun e W' ⟨he, hB⟩ => ?_
  subst he
  have t0 := Below.trod laidKT (by kernel_rfl) (of_decide_eq_true (by kernel_rfl)) h0 hB (fun x hx => hW'.lt x (by simp [hx]))
  have t1 := Below.trod laidKT (by kernel_rfl) (of_decide_eq_true (by kernel_rfl)) h1 hB (fun x hx => hW'.lt x (by simp [hx]))
  refine ⟨_, rfl, _, _, _, [], p0 ++ p1, [], hW', ?_, ?_, ?_, hB.frame _, fun h => by cases h⟩
  · exact trodAll_mk1 (shut_bool Try.underlying4 _)
  · exact trodAll_mk2 t0 t1
  · rfl

theorem fnExactPendingCasts_holds : Rows.FnExactPendingCastsSaid :=
  OpenClaim.holds_of_wide 5 Try.f5 rfl rfl rfl rfl rfl rfl rfl ⟨rfl, rfl, rfl, rfl, rfl⟩ rfl rfl rfl rfl rfl (by kernel_rfl) Try.func5 (by kernel_rfl)
    (of_decide_eq_true (by kernel_rfl)) (by unfold Func.isWrapper; first | (rw [if_pos (by decide +kernel)]; kernel_rfl) | (rw [if_neg (by decide +kernel)]; exact ⟨rfl, rfl⟩))
    (fun os started H enc _ => fnExactPendingCasts_lifted os started H enc)
#print axioms fnExactPendingCasts_holds
end Go.Proofs.Ytnaebafafhamjaa
