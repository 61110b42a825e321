/- Texts of the proof, one behind another. -/
import Derived.Test.YtnaebafafhamjaaGreatKY20
import Derived.Test.YtnaebafafhamjaaGreatKY21
set_option linter.unusedSimpArgs false
set_option linter.unusedVariables false
/- The reference's draws of typed terms: less precise types; the end of a draw. On shadows. -/
namespace Go.Proofs.YtnaebafafhamjaaGreat
open Go.RowKit Go.Proofs.Sh Go.Proofs.Grad
set_option maxRecDepth 100000
set_option maxHeartbeats 16000000
theorem l1BlurS (bs : List Int) (hB : Bs bs) (x : T) : ∀ p, p + 30 * x.size < 999990000 → ACl Tryz.prog 108 [.one (.ptr 2 0 0 0), .agg (tyC x.ty)] [(⟨2, 115, .mut, [[.sl (byR bs), .sc (.int .i64 ((p : Nat) : Int))]]⟩ : Blk)] (DrawsT bs p x.size x.depth) := by
  induction x with
  | any | int | bool =>
    intro p hp
    have hk := pick bs hB p (by simp only [T.size] at hp; omega) 4 (by omega) (by omega)
    refine acl_in Tryz.func108 rfl isfn_108 (Nat.le_of_ble_eq_true rfl) (fun R hR => ?_); rw [Tryz.results108] at hR; refine wg_run ?_; (simp only [Tryz.f108, go_sem])
    ((first | refine kdq [0] ?_ (hc := hk) | refine kmq [0] ?_ (hc := hk) | refine ktq [0] ?_ (hc := hk)); rintro _ _ ⟨z, rfl, hz, hz1, rfl⟩; (simp only [go_sem]))
    repeat' (first | (first | (((first | apply sp1 | apply sp2 | apply sp3 | apply sp4 | apply sp5 | apply sp6 | apply sp7) <;> intro hb) <;> (simp only [go_sem, hb])) | ((first | apply wm_done | apply wt_done | apply wg_run | refine fk ?_ ?_) <;> (simp only [go_sem]))) | (first | refine cdq ?_ (hc := l1Any) | refine cmq ?_ (hc := l1Any) | refine ctq ?_ (hc := l1Any)); (simp only [go_sem]) | (first | (refine wl_next (wg_run ?_); (simp only [go_sem])) | refine wd_rounds 6 ?_))
    all_goals first
      | exact hR _ (rat [] (hK := ⟨.any, p + 1, rfl, by simp only [T.depth]; omega, by simp only [T.size]; omega, rfl⟩))
      | exact hR _ (rat [] (hK := ⟨.int, p + 1, rfl, by simp only [T.depth]; omega, by simp only [T.size]; omega, rfl⟩))
      | exact hR _ (rat [] (hK := ⟨.bool, p + 1, rfl, by simp only [T.depth]; omega, by simp only [T.size]; omega, rfl⟩))
  | fn a b iha ihb =>
    intro p hp
    simp only [T.size] at hp
    have hk := pick bs hB p (by omega) 4 (by omega) (by omega)
    refine acl_in Tryz.func108 rfl isfn_108 (Nat.le_of_ble_eq_true rfl) (fun R hR => ?_); rw [Tryz.results108] at hR; refine wg_run ?_; (simp only [Tryz.f108, go_sem])
    ((first | refine kdq [0] ?_ (hc := hk) | refine kmq [0] ?_ (hc := hk) | refine ktq [0] ?_ (hc := hk)); rintro _ _ ⟨z, rfl, hz, hz1, rfl⟩; (simp only [go_sem]))
    repeat' (first | (first | (((first | apply sp1 | apply sp2 | apply sp3 | apply sp4 | apply sp5 | apply sp6 | apply sp7) <;> intro hb) <;> (simp only [go_sem, hb])) | ((first | apply wm_done | apply wt_done | apply wg_run | refine fk ?_ ?_) <;> (simp only [go_sem]))) | (first | refine cdq ?_ (hc := l1Any) | refine cmq ?_ (hc := l1Any) | refine ctq ?_ (hc := l1Any)); (simp only [go_sem]) | (first | (refine wl_next (wg_run ?_); (simp only [go_sem])) | refine wd_rounds 6 ?_) | ((first | refine mxq6 [0] ?_ | refine mxq5 [0] ?_ | refine mxq4 [0] ?_ | refine mxq3 [0] ?_ | refine mxq2 [0] ?_ | refine mxq1 [0] ?_ | refine mxq0 [0] ?_ | fail); (simp only [go_sem])))
    · exact hR _ (rat [] (hK := ⟨.any, p + 1, rfl, by simp only [T.depth]; omega, by simp only [T.size]; omega, rfl⟩))
    · ((first | refine kdq [0] ?_ (hc := iha _ (by omega)) | refine kmq [0] ?_ (hc := iha _ (by omega)) | refine ktq [0] ?_ (hc := iha _ (by omega))); rintro _ _ ⟨x1, p1, rfl, hx1, hp1, rfl⟩; (simp only [go_sem]))
      repeat' (first | (first | (((first | apply sp1 | apply sp2 | apply sp3 | apply sp4 | apply sp5 | apply sp6 | apply sp7) <;> intro hb) <;> (simp only [go_sem, hb])) | ((first | apply wm_done | apply wt_done | apply wg_run | refine fk ?_ ?_) <;> (simp only [go_sem]))) | (first | (refine wl_next (wg_run ?_); (simp only [go_sem])) | refine wd_rounds 6 ?_) | ((first | refine mxq6 [0] ?_ | refine mxq5 [0] ?_ | refine mxq4 [0] ?_ | refine mxq3 [0] ?_ | refine mxq2 [0] ?_ | refine mxq1 [0] ?_ | refine mxq0 [0] ?_ | fail); (simp only [go_sem])))
      ((first | refine kdq [0] ?_ (hc := ihb _ (by omega)) | refine kmq [0] ?_ (hc := ihb _ (by omega)) | refine ktq [0] ?_ (hc := ihb _ (by omega))); rintro _ _ ⟨x2, p2, rfl, hx2, hp2, rfl⟩; (simp only [go_sem]))
      repeat' (first | (first | (((first | apply sp1 | apply sp2 | apply sp3 | apply sp4 | apply sp5 | apply sp6 | apply sp7) <;> intro hb) <;> (simp only [go_sem, hb])) | ((first | apply wm_done | apply wt_done | apply wg_run | refine fk ?_ ?_) <;> (simp only [go_sem]))) | (first | (refine wl_next (wg_run ?_); (simp only [go_sem])) | refine wd_rounds 6 ?_) | ((first | refine mxq6 [0] ?_ | refine mxq5 [0] ?_ | refine mxq4 [0] ?_ | refine mxq3 [0] ?_ | refine mxq2 [0] ?_ | refine mxq1 [0] ?_ | refine mxq0 [0] ?_ | fail); (simp only [go_sem])))
      exact hR _ (rat [] (hK := ⟨.fn x1 x2, p2, rfl, by simp only [T.depth]; omega, by simp only [T.size]; omega, rfl⟩))
  | pr a b iha ihb =>
    intro p hp
    simp only [T.size] at hp
    have hk := pick bs hB p (by omega) 4 (by omega) (by omega)
    refine acl_in Tryz.func108 rfl isfn_108 (Nat.le_of_ble_eq_true rfl) (fun R hR => ?_); rw [Tryz.results108] at hR; refine wg_run ?_; (simp only [Tryz.f108, go_sem])
    ((first | refine kdq [0] ?_ (hc := hk) | refine kmq [0] ?_ (hc := hk) | refine ktq [0] ?_ (hc := hk)); rintro _ _ ⟨z, rfl, hz, hz1, rfl⟩; (simp only [go_sem]))
    repeat' (first | (first | (((first | apply sp1 | apply sp2 | apply sp3 | apply sp4 | apply sp5 | apply sp6 | apply sp7) <;> intro hb) <;> (simp only [go_sem, hb])) | ((first | apply wm_done | apply wt_done | apply wg_run | refine fk ?_ ?_) <;> (simp only [go_sem]))) | (first | refine cdq ?_ (hc := l1Any) | refine cmq ?_ (hc := l1Any) | refine ctq ?_ (hc := l1Any)); (simp only [go_sem]) | (first | (refine wl_next (wg_run ?_); (simp only [go_sem])) | refine wd_rounds 6 ?_) | ((first | refine mxq6 [0] ?_ | refine mxq5 [0] ?_ | refine mxq4 [0] ?_ | refine mxq3 [0] ?_ | refine mxq2 [0] ?_ | refine mxq1 [0] ?_ | refine mxq0 [0] ?_ | fail); (simp only [go_sem])))
    · exact hR _ (rat [] (hK := ⟨.any, p + 1, rfl, by simp only [T.depth]; omega, by simp only [T.size]; omega, rfl⟩))
    · ((first | refine kdq [0] ?_ (hc := iha _ (by omega)) | refine kmq [0] ?_ (hc := iha _ (by omega)) | refine ktq [0] ?_ (hc := iha _ (by omega))); rintro _ _ ⟨x1, p1, rfl, hx1, hp1, rfl⟩; (simp only [go_sem]))
      repeat' (first | (first | (((first | apply sp1 | apply sp2 | apply sp3 | apply sp4 | apply sp5 | apply sp6 | apply sp7) <;> intro hb) <;> (simp only [go_sem, hb])) | ((first | apply wm_done | apply wt_done | apply wg_run | refine fk ?_ ?_) <;> (simp only [go_sem]))) | (first | (refine wl_next (wg_run ?_); (simp only [go_sem])) | refine wd_rounds 6 ?_) | ((first | refine mxq6 [0] ?_ | refine mxq5 [0] ?_ | refine mxq4 [0] ?_ | refine mxq3 [0] ?_ | refine mxq2 [0] ?_ | refine mxq1 [0] ?_ | refine mxq0 [0] ?_ | fail); (simp only [go_sem])))
      ((first | refine kdq [0] ?_ (hc := ihb _ (by omega)) | refine kmq [0] ?_ (hc := ihb _ (by omega)) | refine ktq [0] ?_ (hc := ihb _ (by omega))); rintro _ _ ⟨x2, p2, rfl, hx2, hp2, rfl⟩; (simp only [go_sem]))
      repeat' (first | (first | (((first | apply sp1 | apply sp2 | apply sp3 | apply sp4 | apply sp5 | apply sp6 | apply sp7) <;> intro hb) <;> (simp only [go_sem, hb])) | ((first | apply wm_done | apply wt_done | apply wg_run | refine fk ?_ ?_) <;> (simp only [go_sem]))) | (first | (refine wl_next (wg_run ?_); (simp only [go_sem])) | refine wd_rounds 6 ?_) | ((first | refine mxq6 [0] ?_ | refine mxq5 [0] ?_ | refine mxq4 [0] ?_ | refine mxq3 [0] ?_ | refine mxq2 [0] ?_ | refine mxq1 [0] ?_ | refine mxq0 [0] ?_ | fail); (simp only [go_sem])))
      exact hR _ (rat [] (hK := ⟨.pr x1 x2, p2, rfl, by simp only [T.depth]; omega, by simp only [T.size]; omega, rfl⟩))
def ctxN (Γ : Ctx) : Prop := ∀ b ∈ Γ, nmB b.1 = true
theorem ctxN_nil : ctxN [] := by intro b h; simp at h
theorem ctxN_snoc {Γ : Ctx} {x : UInt8} {t : T} (h : ctxN Γ) (hx : nmB x = true) : ctxN (Γ ++ [(x, t)]) := by
  intro b hb
  rcases List.mem_append.1 hb with hb | hb
  · exact h b hb
  · simp at hb; subst hb; exact hx
end Go.Proofs.YtnaebafafhamjaaGreat
