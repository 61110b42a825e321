/- The reference's draws of types near a type, and of pairs, on shadows. -/
import Derived.Test.YtkkijdlgmlffoaaTD1
import Derived.Test.YtkkijdlgmlffoaaTF4
namespace Go.Proofs.Ytkkijdlgmlffoaa
open Go.RowKit Go.Proofs.Sh Go.Proofs.Grad
set_option maxRecDepth 100000
set_option maxHeartbeats 4000000
theorem T.ty_valid (x : T) : x.ty.valid = decide (x.depth ≤ 4) := T.shape_ty x 4
theorem l6Near (bs : List Int) (hB : Bs bs) (n : Nat) : ∀ (x : T), x.size < n → x.depth ≤ 4 → ∀ p, p + 30 * x.size < 999990000 → ACl Try.prog 50 [.one (.ptr 2 0 0 0), .agg (tyC x.ty)] [(⟨2, 61, .mut, [[.sl (byR bs), .sc (.int .i64 ((p : Nat) : Int))]]⟩ : Blk)] (DrawsT bs p (30 * x.size) 4) := by
  induction n with
  | zero => intro x h; omega
  | succ n ih =>
    intro x hx hd p hp
    have hs := tys 4 x hd
    have hc := l1Copy 1000000 (by omega) x.ty (by rw [T.ty_size]; omega)
    rcases x with _ | _ | _ | ⟨a, b⟩ | ⟨a, b⟩
    · have hk := num bs hB p (by simp only [T.size] at hp; omega) [2, 1, 3] (by decide) (by decide)
      refine acl_in Try.func50 rfl isfn_50 (Nat.le_of_ble_eq_true rfl) (fun R hR => ?_); rw [Try.results50] at hR; refine wg_run ?_; (simp only [Try.f50, go_sem])
      ((first | refine wd_cl [0] (by (simp only [go_sem]) <;> rfl) (hk) ?_ | refine wm_cl [0] (by (simp only [go_sem]) <;> rfl) (hk) (by (simp only [go_sem]) <;> rfl) (by (simp only [go_sem]) <;> rfl) ?_); rintro _ _ ⟨z, rfl, hz, rfl⟩; (simp only [go_sem]))
      simp only [List.mem_cons, List.not_mem_nil, or_false] at hz
      obtain ⟨d, rfl, hd1, hd4⟩ : ∃ d : Nat, z = (d : Int) ∧ 1 ≤ d ∧ d ≤ 4 := ⟨z.toNat, by omega, by omega, by omega⟩
      ((first | refine wd_cl [0] (by (simp only [go_sem]) <;> rfl) (l1Draw bs hB d hd1 hd4 (p + 1) (by simp only [T.size] at hp; omega)) ?_ | refine wm_cl [0] (by (simp only [go_sem]) <;> rfl) (l1Draw bs hB d hd1 hd4 (p + 1) (by simp only [T.size] at hp; omega)) (by (simp only [go_sem]) <;> rfl) (by (simp only [go_sem]) <;> rfl) ?_); rintro _ _ ⟨x1, p1, rfl, hx1, hp1, rfl⟩; (simp only [go_sem]))
      exact hR _ (ret_at [] (by (simp only [go_sem]) <;> rfl) (by (simp only [go_sem]) <;> rfl) ⟨x1, p1, rfl, by omega, by simp only [T.size]; omega, rfl⟩)
    · have hk := pick bs hB p (by simp only [T.size] at hp; omega) 4 (by omega) (by omega)
      have hv := sValid T.int.ty
      simp only [T.ty_valid, T.depth] at hv
      refine acl_in Try.func50 rfl isfn_50 (Nat.le_of_ble_eq_true rfl) (fun R hR => ?_); rw [Try.results50] at hR; refine wg_run ?_; (simp only [Try.f50, go_sem])
      ((first | refine wd_cl [0] (by (simp only [go_sem]) <;> rfl) (hk) ?_ | refine wm_cl [0] (by (simp only [go_sem]) <;> rfl) (hk) (by (simp only [go_sem]) <;> rfl) (by (simp only [go_sem]) <;> rfl) ?_); rintro _ _ ⟨z, rfl, hz, hz1, rfl⟩; (simp only [go_sem]))
      repeat' (first | (first | ((first | refine wd_split _ (fun hb => ?_) (fun hb => ?_) | refine wd_nwant _ (fun hb => ?_) (fun hb => ?_) | refine wm_nwant _ (fun hb => ?_) (fun hb => ?_) | refine wd_want _ (fun hb => ?_) (fun hb => ?_) | refine wm_want _ (fun hb => ?_) (fun hb => ?_)) <;> (simp only [go_sem, hb])) | (refine wm_done ?_; (simp only [go_sem])) | (refine wg_run ?_; (simp only [go_sem]))) | (first | refine wd_fn (by (simp only [go_sem]) <;> rfl) (l1Any) ?_ | refine wm_fn (by (simp only [go_sem]) <;> rfl) (l1Any) (by (simp only [go_sem]) <;> rfl) (by (simp only [go_sem]) <;> rfl) ?_); (simp only [go_sem]) | (first | (refine wl_next (wg_run ?_); (simp only [go_sem])) | refine wd_rounds 6 ?_) | (first | refine wd_fn (by (simp only [go_sem]) <;> rfl) (hv) ?_ | refine wm_fn (by (simp only [go_sem]) <;> rfl) (hv) (by (simp only [go_sem]) <;> rfl) (by (simp only [go_sem]) <;> rfl) ?_); (simp only [go_sem]))
      · exact hR _ (ret_at [] (by (simp only [go_sem]) <;> rfl) (by (simp only [go_sem]) <;> rfl) ⟨.any, p + 1, rfl, by simp only [T.depth]; omega, by simp only [T.size]; omega, rfl⟩)
      · exact hR _ (ret_at [] (by (simp only [go_sem]) <;> rfl) (by (simp only [go_sem]) <;> rfl) ⟨.int, p + 1, rfl, by simp only [T.depth]; omega, by simp only [T.size]; omega, rfl⟩)
    · have hk := pick bs hB p (by simp only [T.size] at hp; omega) 4 (by omega) (by omega)
      have hv := sValid T.bool.ty
      simp only [T.ty_valid, T.depth] at hv
      refine acl_in Try.func50 rfl isfn_50 (Nat.le_of_ble_eq_true rfl) (fun R hR => ?_); rw [Try.results50] at hR; refine wg_run ?_; (simp only [Try.f50, go_sem])
      ((first | refine wd_cl [0] (by (simp only [go_sem]) <;> rfl) (hk) ?_ | refine wm_cl [0] (by (simp only [go_sem]) <;> rfl) (hk) (by (simp only [go_sem]) <;> rfl) (by (simp only [go_sem]) <;> rfl) ?_); rintro _ _ ⟨z, rfl, hz, hz1, rfl⟩; (simp only [go_sem]))
      repeat' (first | (first | ((first | refine wd_split _ (fun hb => ?_) (fun hb => ?_) | refine wd_nwant _ (fun hb => ?_) (fun hb => ?_) | refine wm_nwant _ (fun hb => ?_) (fun hb => ?_) | refine wd_want _ (fun hb => ?_) (fun hb => ?_) | refine wm_want _ (fun hb => ?_) (fun hb => ?_)) <;> (simp only [go_sem, hb])) | (refine wm_done ?_; (simp only [go_sem])) | (refine wg_run ?_; (simp only [go_sem]))) | (first | refine wd_fn (by (simp only [go_sem]) <;> rfl) (l1Any) ?_ | refine wm_fn (by (simp only [go_sem]) <;> rfl) (l1Any) (by (simp only [go_sem]) <;> rfl) (by (simp only [go_sem]) <;> rfl) ?_); (simp only [go_sem]) | (first | (refine wl_next (wg_run ?_); (simp only [go_sem])) | refine wd_rounds 6 ?_) | (first | refine wd_fn (by (simp only [go_sem]) <;> rfl) (hv) ?_ | refine wm_fn (by (simp only [go_sem]) <;> rfl) (hv) (by (simp only [go_sem]) <;> rfl) (by (simp only [go_sem]) <;> rfl) ?_); (simp only [go_sem]))
      · exact hR _ (ret_at [] (by (simp only [go_sem]) <;> rfl) (by (simp only [go_sem]) <;> rfl) ⟨.any, p + 1, rfl, by simp only [T.depth]; omega, by simp only [T.size]; omega, rfl⟩)
      · exact hR _ (ret_at [] (by (simp only [go_sem]) <;> rfl) (by (simp only [go_sem]) <;> rfl) ⟨.bool, p + 1, rfl, by simp only [T.depth]; omega, by simp only [T.size]; omega, rfl⟩)
    · simp only [T.size] at hp hx
      simp only [T.depth] at hd
      have hk := pick bs hB p (by omega) 4 (by omega) (by omega)
      refine acl_in Try.func50 rfl isfn_50 (Nat.le_of_ble_eq_true rfl) (fun R hR => ?_); rw [Try.results50] at hR; refine wg_run ?_; (simp only [Try.f50, go_sem])
      ((first | refine wd_cl [0] (by (simp only [go_sem]) <;> rfl) (hk) ?_ | refine wm_cl [0] (by (simp only [go_sem]) <;> rfl) (hk) (by (simp only [go_sem]) <;> rfl) (by (simp only [go_sem]) <;> rfl) ?_); rintro _ _ ⟨z, rfl, hz, hz1, rfl⟩; (simp only [go_sem]))
      repeat' (first | (first | ((first | refine wd_split _ (fun hb => ?_) (fun hb => ?_) | refine wd_nwant _ (fun hb => ?_) (fun hb => ?_) | refine wm_nwant _ (fun hb => ?_) (fun hb => ?_) | refine wd_want _ (fun hb => ?_) (fun hb => ?_) | refine wm_want _ (fun hb => ?_) (fun hb => ?_)) <;> (simp only [go_sem, hb])) | (refine wm_done ?_; (simp only [go_sem])) | (refine wg_run ?_; (simp only [go_sem]))) | (first | refine wd_fn (by (simp only [go_sem]) <;> rfl) (l1Any) ?_ | refine wm_fn (by (simp only [go_sem]) <;> rfl) (l1Any) (by (simp only [go_sem]) <;> rfl) (by (simp only [go_sem]) <;> rfl) ?_); (simp only [go_sem]) | (first | (refine wl_next (wg_run ?_); (simp only [go_sem])) | refine wd_rounds 6 ?_) | ((first | refine wd_mix 6 [0] follows (by decide +kernel) (by (simp only [go_sem]) <;> rfl) ?_ | refine wd_mix 5 [0] follows (by decide +kernel) (by (simp only [go_sem]) <;> rfl) ?_ | refine wd_mix 4 [0] follows (by decide +kernel) (by (simp only [go_sem]) <;> rfl) ?_ | refine wd_mix 3 [0] follows (by decide +kernel) (by (simp only [go_sem]) <;> rfl) ?_ | refine wd_mix 2 [0] follows (by decide +kernel) (by (simp only [go_sem]) <;> rfl) ?_ | refine wd_mix 1 [0] follows (by decide +kernel) (by (simp only [go_sem]) <;> rfl) ?_ | refine wd_mix 0 [0] follows (by decide +kernel) (by (simp only [go_sem]) <;> rfl) ?_); (simp only [go_sem])))
      · exact hR _ (ret_at [] (by (simp only [go_sem]) <;> rfl) (by (simp only [go_sem]) <;> rfl) ⟨.any, p + 1, rfl, by simp only [T.depth]; omega, by simp only [T.size]; omega, rfl⟩)
      · ((first | refine wd_cl [0] (by (simp only [go_sem]) <;> rfl) (ih a (by omega) (by omega) _ (by omega)) ?_ | refine wm_cl [0] (by (simp only [go_sem]) <;> rfl) (ih a (by omega) (by omega) _ (by omega)) (by (simp only [go_sem]) <;> rfl) (by (simp only [go_sem]) <;> rfl) ?_); rintro _ _ ⟨x1, p1, rfl, hx1, hp1, rfl⟩; (simp only [go_sem]))
        repeat' (first | (first | ((first | refine wd_split _ (fun hb => ?_) (fun hb => ?_) | refine wd_nwant _ (fun hb => ?_) (fun hb => ?_) | refine wm_nwant _ (fun hb => ?_) (fun hb => ?_) | refine wd_want _ (fun hb => ?_) (fun hb => ?_) | refine wm_want _ (fun hb => ?_) (fun hb => ?_)) <;> (simp only [go_sem, hb])) | (refine wm_done ?_; (simp only [go_sem])) | (refine wg_run ?_; (simp only [go_sem]))) | (first | (refine wl_next (wg_run ?_); (simp only [go_sem])) | refine wd_rounds 6 ?_) | ((first | refine wd_mix 6 [0] follows (by decide +kernel) (by (simp only [go_sem]) <;> rfl) ?_ | refine wd_mix 5 [0] follows (by decide +kernel) (by (simp only [go_sem]) <;> rfl) ?_ | refine wd_mix 4 [0] follows (by decide +kernel) (by (simp only [go_sem]) <;> rfl) ?_ | refine wd_mix 3 [0] follows (by decide +kernel) (by (simp only [go_sem]) <;> rfl) ?_ | refine wd_mix 2 [0] follows (by decide +kernel) (by (simp only [go_sem]) <;> rfl) ?_ | refine wd_mix 1 [0] follows (by decide +kernel) (by (simp only [go_sem]) <;> rfl) ?_ | refine wd_mix 0 [0] follows (by decide +kernel) (by (simp only [go_sem]) <;> rfl) ?_); (simp only [go_sem])))
        ((first | refine wd_cl [0] (by (simp only [go_sem]) <;> rfl) (ih b (by omega) (by omega) _ (by omega)) ?_ | refine wm_cl [0] (by (simp only [go_sem]) <;> rfl) (ih b (by omega) (by omega) _ (by omega)) (by (simp only [go_sem]) <;> rfl) (by (simp only [go_sem]) <;> rfl) ?_); rintro _ _ ⟨x2, p2, rfl, hx2, hp2, rfl⟩; (simp only [go_sem]))
        repeat' (first | (first | ((first | refine wd_split _ (fun hb => ?_) (fun hb => ?_) | refine wd_nwant _ (fun hb => ?_) (fun hb => ?_) | refine wm_nwant _ (fun hb => ?_) (fun hb => ?_) | refine wd_want _ (fun hb => ?_) (fun hb => ?_) | refine wm_want _ (fun hb => ?_) (fun hb => ?_)) <;> (simp only [go_sem, hb])) | (refine wm_done ?_; (simp only [go_sem])) | (refine wg_run ?_; (simp only [go_sem]))) | (first | (refine wl_next (wg_run ?_); (simp only [go_sem])) | refine wd_rounds 6 ?_) | ((first | refine wd_mix 6 [0] follows (by decide +kernel) (by (simp only [go_sem]) <;> rfl) ?_ | refine wd_mix 5 [0] follows (by decide +kernel) (by (simp only [go_sem]) <;> rfl) ?_ | refine wd_mix 4 [0] follows (by decide +kernel) (by (simp only [go_sem]) <;> rfl) ?_ | refine wd_mix 3 [0] follows (by decide +kernel) (by (simp only [go_sem]) <;> rfl) ?_ | refine wd_mix 2 [0] follows (by decide +kernel) (by (simp only [go_sem]) <;> rfl) ?_ | refine wd_mix 1 [0] follows (by decide +kernel) (by (simp only [go_sem]) <;> rfl) ?_ | refine wd_mix 0 [0] follows (by decide +kernel) (by (simp only [go_sem]) <;> rfl) ?_); (simp only [go_sem])))
        have hv := sValid (T.fn x1 x2).ty
        rw [T.ty_valid] at hv
        (first | refine wd_fn (by (simp only [go_sem]) <;> rfl) (hv) ?_ | refine wm_fn (by (simp only [go_sem]) <;> rfl) (hv) (by (simp only [go_sem]) <;> rfl) (by (simp only [go_sem]) <;> rfl) ?_); (simp only [go_sem])
        repeat' (first | (first | ((first | refine wd_split _ (fun hb => ?_) (fun hb => ?_) | refine wd_nwant _ (fun hb => ?_) (fun hb => ?_) | refine wm_nwant _ (fun hb => ?_) (fun hb => ?_) | refine wd_want _ (fun hb => ?_) (fun hb => ?_) | refine wm_want _ (fun hb => ?_) (fun hb => ?_)) <;> (simp only [go_sem, hb])) | (refine wm_done ?_; (simp only [go_sem])) | (refine wg_run ?_; (simp only [go_sem]))) | (first | refine wd_fn (by (simp only [go_sem]) <;> rfl) (hc) ?_ | refine wm_fn (by (simp only [go_sem]) <;> rfl) (hc) (by (simp only [go_sem]) <;> rfl) (by (simp only [go_sem]) <;> rfl) ?_); (simp only [go_sem]))
        · exact hR _ (ret_at [] (by (simp only [go_sem]) <;> rfl) (by (simp only [go_sem]) <;> rfl) ⟨.fn x1 x2, p2, rfl, of_decide_eq_true hb, by simp only [T.size]; omega, rfl⟩)
        · exact hR _ (ret_at [] (by (simp only [go_sem]) <;> rfl) (by (simp only [go_sem]) <;> rfl) ⟨.fn a b, p2, rfl, by simp only [T.depth]; omega, by simp only [T.size]; omega, rfl⟩)
    · simp only [T.size] at hp hx
      simp only [T.depth] at hd
      have hk := pick bs hB p (by omega) 4 (by omega) (by omega)
      refine acl_in Try.func50 rfl isfn_50 (Nat.le_of_ble_eq_true rfl) (fun R hR => ?_); rw [Try.results50] at hR; refine wg_run ?_; (simp only [Try.f50, go_sem])
      ((first | refine wd_cl [0] (by (simp only [go_sem]) <;> rfl) (hk) ?_ | refine wm_cl [0] (by (simp only [go_sem]) <;> rfl) (hk) (by (simp only [go_sem]) <;> rfl) (by (simp only [go_sem]) <;> rfl) ?_); rintro _ _ ⟨z, rfl, hz, hz1, rfl⟩; (simp only [go_sem]))
      repeat' (first | (first | ((first | refine wd_split _ (fun hb => ?_) (fun hb => ?_) | refine wd_nwant _ (fun hb => ?_) (fun hb => ?_) | refine wm_nwant _ (fun hb => ?_) (fun hb => ?_) | refine wd_want _ (fun hb => ?_) (fun hb => ?_) | refine wm_want _ (fun hb => ?_) (fun hb => ?_)) <;> (simp only [go_sem, hb])) | (refine wm_done ?_; (simp only [go_sem])) | (refine wg_run ?_; (simp only [go_sem]))) | (first | refine wd_fn (by (simp only [go_sem]) <;> rfl) (l1Any) ?_ | refine wm_fn (by (simp only [go_sem]) <;> rfl) (l1Any) (by (simp only [go_sem]) <;> rfl) (by (simp only [go_sem]) <;> rfl) ?_); (simp only [go_sem]) | (first | (refine wl_next (wg_run ?_); (simp only [go_sem])) | refine wd_rounds 6 ?_) | ((first | refine wd_mix 6 [0] follows (by decide +kernel) (by (simp only [go_sem]) <;> rfl) ?_ | refine wd_mix 5 [0] follows (by decide +kernel) (by (simp only [go_sem]) <;> rfl) ?_ | refine wd_mix 4 [0] follows (by decide +kernel) (by (simp only [go_sem]) <;> rfl) ?_ | refine wd_mix 3 [0] follows (by decide +kernel) (by (simp only [go_sem]) <;> rfl) ?_ | refine wd_mix 2 [0] follows (by decide +kernel) (by (simp only [go_sem]) <;> rfl) ?_ | refine wd_mix 1 [0] follows (by decide +kernel) (by (simp only [go_sem]) <;> rfl) ?_ | refine wd_mix 0 [0] follows (by decide +kernel) (by (simp only [go_sem]) <;> rfl) ?_); (simp only [go_sem])))
      · exact hR _ (ret_at [] (by (simp only [go_sem]) <;> rfl) (by (simp only [go_sem]) <;> rfl) ⟨.any, p + 1, rfl, by simp only [T.depth]; omega, by simp only [T.size]; omega, rfl⟩)
      · ((first | refine wd_cl [0] (by (simp only [go_sem]) <;> rfl) (ih a (by omega) (by omega) _ (by omega)) ?_ | refine wm_cl [0] (by (simp only [go_sem]) <;> rfl) (ih a (by omega) (by omega) _ (by omega)) (by (simp only [go_sem]) <;> rfl) (by (simp only [go_sem]) <;> rfl) ?_); rintro _ _ ⟨x1, p1, rfl, hx1, hp1, rfl⟩; (simp only [go_sem]))
        repeat' (first | (first | ((first | refine wd_split _ (fun hb => ?_) (fun hb => ?_) | refine wd_nwant _ (fun hb => ?_) (fun hb => ?_) | refine wm_nwant _ (fun hb => ?_) (fun hb => ?_) | refine wd_want _ (fun hb => ?_) (fun hb => ?_) | refine wm_want _ (fun hb => ?_) (fun hb => ?_)) <;> (simp only [go_sem, hb])) | (refine wm_done ?_; (simp only [go_sem])) | (refine wg_run ?_; (simp only [go_sem]))) | (first | (refine wl_next (wg_run ?_); (simp only [go_sem])) | refine wd_rounds 6 ?_) | ((first | refine wd_mix 6 [0] follows (by decide +kernel) (by (simp only [go_sem]) <;> rfl) ?_ | refine wd_mix 5 [0] follows (by decide +kernel) (by (simp only [go_sem]) <;> rfl) ?_ | refine wd_mix 4 [0] follows (by decide +kernel) (by (simp only [go_sem]) <;> rfl) ?_ | refine wd_mix 3 [0] follows (by decide +kernel) (by (simp only [go_sem]) <;> rfl) ?_ | refine wd_mix 2 [0] follows (by decide +kernel) (by (simp only [go_sem]) <;> rfl) ?_ | refine wd_mix 1 [0] follows (by decide +kernel) (by (simp only [go_sem]) <;> rfl) ?_ | refine wd_mix 0 [0] follows (by decide +kernel) (by (simp only [go_sem]) <;> rfl) ?_); (simp only [go_sem])))
        ((first | refine wd_cl [0] (by (simp only [go_sem]) <;> rfl) (ih b (by omega) (by omega) _ (by omega)) ?_ | refine wm_cl [0] (by (simp only [go_sem]) <;> rfl) (ih b (by omega) (by omega) _ (by omega)) (by (simp only [go_sem]) <;> rfl) (by (simp only [go_sem]) <;> rfl) ?_); rintro _ _ ⟨x2, p2, rfl, hx2, hp2, rfl⟩; (simp only [go_sem]))
        repeat' (first | (first | ((first | refine wd_split _ (fun hb => ?_) (fun hb => ?_) | refine wd_nwant _ (fun hb => ?_) (fun hb => ?_) | refine wm_nwant _ (fun hb => ?_) (fun hb => ?_) | refine wd_want _ (fun hb => ?_) (fun hb => ?_) | refine wm_want _ (fun hb => ?_) (fun hb => ?_)) <;> (simp only [go_sem, hb])) | (refine wm_done ?_; (simp only [go_sem])) | (refine wg_run ?_; (simp only [go_sem]))) | (first | (refine wl_next (wg_run ?_); (simp only [go_sem])) | refine wd_rounds 6 ?_) | ((first | refine wd_mix 6 [0] follows (by decide +kernel) (by (simp only [go_sem]) <;> rfl) ?_ | refine wd_mix 5 [0] follows (by decide +kernel) (by (simp only [go_sem]) <;> rfl) ?_ | refine wd_mix 4 [0] follows (by decide +kernel) (by (simp only [go_sem]) <;> rfl) ?_ | refine wd_mix 3 [0] follows (by decide +kernel) (by (simp only [go_sem]) <;> rfl) ?_ | refine wd_mix 2 [0] follows (by decide +kernel) (by (simp only [go_sem]) <;> rfl) ?_ | refine wd_mix 1 [0] follows (by decide +kernel) (by (simp only [go_sem]) <;> rfl) ?_ | refine wd_mix 0 [0] follows (by decide +kernel) (by (simp only [go_sem]) <;> rfl) ?_); (simp only [go_sem])))
        have hv := sValid (T.pr x1 x2).ty
        rw [T.ty_valid] at hv
        (first | refine wd_fn (by (simp only [go_sem]) <;> rfl) (hv) ?_ | refine wm_fn (by (simp only [go_sem]) <;> rfl) (hv) (by (simp only [go_sem]) <;> rfl) (by (simp only [go_sem]) <;> rfl) ?_); (simp only [go_sem])
        repeat' (first | (first | ((first | refine wd_split _ (fun hb => ?_) (fun hb => ?_) | refine wd_nwant _ (fun hb => ?_) (fun hb => ?_) | refine wm_nwant _ (fun hb => ?_) (fun hb => ?_) | refine wd_want _ (fun hb => ?_) (fun hb => ?_) | refine wm_want _ (fun hb => ?_) (fun hb => ?_)) <;> (simp only [go_sem, hb])) | (refine wm_done ?_; (simp only [go_sem])) | (refine wg_run ?_; (simp only [go_sem]))) | (first | refine wd_fn (by (simp only [go_sem]) <;> rfl) (hc) ?_ | refine wm_fn (by (simp only [go_sem]) <;> rfl) (hc) (by (simp only [go_sem]) <;> rfl) (by (simp only [go_sem]) <;> rfl) ?_); (simp only [go_sem]))
        · exact hR _ (ret_at [] (by (simp only [go_sem]) <;> rfl) (by (simp only [go_sem]) <;> rfl) ⟨.pr x1 x2, p2, rfl, of_decide_eq_true hb, by simp only [T.size]; omega, rfl⟩)
        · exact hR _ (ret_at [] (by (simp only [go_sem]) <;> rfl) (by (simp only [go_sem]) <;> rfl) ⟨.pr a b, p2, rfl, by simp only [T.depth]; omega, by simp only [T.size]; omega, rfl⟩)
/-- two types, not too large -/
def Pair2 (r : AV) (H' : List Blk) : Prop := ∃ x y : Ty, r = .tup [.agg (tyC x), .agg (tyC y)] ∧ x.size ≤ 1000 ∧ y.size ≤ 1000 ∧ H' = []
/-- a code -/
structure Code8 (l : List Int) : Prop where
  len : l.length < 4611686018427387904
  all : ∀ k, 0 ≤ byte l k ∧ byte l k < 256
theorem dSubPos (l : List Int) (hl : Code8 l) : ACl Try.prog 23 [.one (.sl (byR l))] [] Pair2 := by
  have ho := opn l hl.len hl.all
  refine acl_in Try.func23 rfl isfn_23 (Nat.le_of_ble_eq_true rfl) (fun R hR => ?_); rw [Try.results23] at hR; refine wg_run ?_; (simp only [Try.f23, go_sem])
  ((first | refine wd_cl [] (by (simp only [go_sem]) <;> rfl) (ho) ?_ | refine wm_cl [] (by (simp only [go_sem]) <;> rfl) (ho) (by (simp only [go_sem]) <;> rfl) (by (simp only [go_sem]) <;> rfl) ?_); rintro _ _ ⟨bs, hB, rfl, rfl⟩ <;> (simp only [go_sem]))
  have ht := l1Type bs hB 0 (by omega)
  ((first | refine wd_cl [2] (by (simp only [go_sem]) <;> rfl) (ht) ?_ | refine wm_cl [2] (by (simp only [go_sem]) <;> rfl) (ht) (by (simp only [go_sem]) <;> rfl) (by (simp only [go_sem]) <;> rfl) ?_); rintro _ _ ⟨x, p, rfl, hx, hp, rfl⟩ <;> (simp only [go_sem]))
  have hx2 := tys 4 x hx
  have hk := pick bs hB p (by omega) 4 (by omega) (by omega)
  ((first | refine wd_cl [2] (by (simp only [go_sem]) <;> rfl) (hk) ?_ | refine wm_cl [2] (by (simp only [go_sem]) <;> rfl) (hk) (by (simp only [go_sem]) <;> rfl) (by (simp only [go_sem]) <;> rfl) ?_); rintro _ _ ⟨z, rfl, hz, hz1, rfl⟩ <;> (simp only [go_sem]))
  have hm := l1Mutate bs hB (p + 1) (by omega) x.ty (by rw [T.ty_size]; omega)
  repeat' (first | ((first | refine wd_split _ (fun hb => ?_) (fun hb => ?_) | refine wd_nwant _ (fun hb => ?_) (fun hb => ?_) | refine wm_nwant _ (fun hb => ?_) (fun hb => ?_) | refine wd_want _ (fun hb => ?_) (fun hb => ?_) | refine wm_want _ (fun hb => ?_) (fun hb => ?_)) <;> (simp only [go_sem, hb])) | (refine wm_done ?_; (simp only [go_sem])) | (refine wg_run ?_; (simp only [go_sem])))
  · ((first | refine wd_cl [2] (by (simp only [go_sem]) <;> rfl) (hm) ?_ | refine wm_cl [2] (by (simp only [go_sem]) <;> rfl) (hm) (by (simp only [go_sem]) <;> rfl) (by (simp only [go_sem]) <;> rfl) ?_); rintro _ _ ⟨y, q, rfl, hy, hq, rfl⟩ <;> (simp only [go_sem]))
    have ht := l1Type bs hB q (by omega)
    ((first | refine wd_cl [2] (by (simp only [go_sem]) <;> rfl) (ht) ?_ | refine wm_cl [2] (by (simp only [go_sem]) <;> rfl) (ht) (by (simp only [go_sem]) <;> rfl) (by (simp only [go_sem]) <;> rfl) ?_); rintro _ _ ⟨u, r, rfl, hu, hr, rfl⟩ <;> (simp only [go_sem]))
    have hu2 := tys 4 u hu
    rw [T.ty_size] at hy
    exact hR _ (ret_at [] (by (simp only [go_sem]) <;> rfl) (by (simp only [go_sem]) <;> rfl) ⟨y, u.ty, rfl, by omega, by rw [T.ty_size]; omega, rfl⟩)
  · (refine wd_mix 2 [2] follows (by kernel_rfl) (by (simp only [go_sem]) <;> rfl) ?_; (simp only [go_sem]))
    ((first | refine wd_cl [2] (by (simp only [go_sem]) <;> rfl) (hm) ?_ | refine wm_cl [2] (by (simp only [go_sem]) <;> rfl) (hm) (by (simp only [go_sem]) <;> rfl) (by (simp only [go_sem]) <;> rfl) ?_); rintro _ _ ⟨y, q, rfl, hy, hq, rfl⟩ <;> (simp only [go_sem]))
    have ht := l6Near bs hB (x.size + 1) x (by omega) hx q (by omega)
    ((first | refine wd_cl [2] (by (simp only [go_sem]) <;> rfl) (ht) ?_ | refine wm_cl [2] (by (simp only [go_sem]) <;> rfl) (ht) (by (simp only [go_sem]) <;> rfl) (by (simp only [go_sem]) <;> rfl) ?_); rintro _ _ ⟨u, r, rfl, hu, hr, rfl⟩ <;> (simp only [go_sem]))
    repeat' (first | ((first | refine wd_split _ (fun hb => ?_) (fun hb => ?_) | refine wd_nwant _ (fun hb => ?_) (fun hb => ?_) | refine wm_nwant _ (fun hb => ?_) (fun hb => ?_) | refine wd_want _ (fun hb => ?_) (fun hb => ?_) | refine wm_want _ (fun hb => ?_) (fun hb => ?_)) <;> (simp only [go_sem, hb])) | (refine wm_done ?_; (simp only [go_sem])) | (refine wg_run ?_; (simp only [go_sem])))
    have hu2 := tys 4 u hu
    rw [T.ty_size] at hy
    exact hR _ (ret_at [] (by (simp only [go_sem]) <;> rfl) (by (simp only [go_sem]) <;> rfl) ⟨y, u.ty, rfl, by omega, by rw [T.ty_size]; omega, rfl⟩)
theorem dSubtype (l : List Int) (hl : Code8 l) : ACl Try.prog 21 [.one (.sl (byR l))] [] Pair2 := by
  have ho := dSubPos l hl
  refine acl_in Try.func21 rfl isfn_21 (Nat.le_of_ble_eq_true rfl) (fun R hR => ?_); rw [Try.results21] at hR; refine wg_run ?_; (simp only [Try.f21, go_sem])
  ((first | refine wd_cl [] (by (simp only [go_sem]) <;> rfl) (ho) ?_ | refine wm_cl [] (by (simp only [go_sem]) <;> rfl) (ho) (by (simp only [go_sem]) <;> rfl) (by (simp only [go_sem]) <;> rfl) ?_); rintro _ _ ⟨x, y, rfl, hx, hy, rfl⟩ <;> (simp only [go_sem]))
  exact hR _ (ret_at [] (by (simp only [go_sem]) <;> rfl) (by (simp only [go_sem]) <;> rfl) ⟨x, y, rfl, hx, hy, rfl⟩)
/-- a type, not too large -/
def One1 (r : AV) (H' : List Blk) : Prop := ∃ x : Ty, r = .agg (tyC x) ∧ x.size ≤ 1000 ∧ H' = []
theorem dTypeValid (l : List Int) (hl : Code8 l) : ACl Try.prog 60 [.one (.sl (byR l))] [] One1 := by
  have ho := opn l hl.len hl.all
  refine acl_in Try.func60 rfl isfn_60 (Nat.le_of_ble_eq_true rfl) (fun R hR => ?_); rw [Try.results60] at hR; refine wg_run ?_; (simp only [Try.f60, go_sem])
  ((first | refine wd_cl [] (by (simp only [go_sem]) <;> rfl) (ho) ?_ | refine wm_cl [] (by (simp only [go_sem]) <;> rfl) (ho) (by (simp only [go_sem]) <;> rfl) (by (simp only [go_sem]) <;> rfl) ?_); rintro _ _ ⟨bs, hB, rfl, rfl⟩ <;> (simp only [go_sem]))
  have ht := l1Type bs hB 0 (by omega)
  ((first | refine wd_cl [1] (by (simp only [go_sem]) <;> rfl) (ht) ?_ | refine wm_cl [1] (by (simp only [go_sem]) <;> rfl) (ht) (by (simp only [go_sem]) <;> rfl) (by (simp only [go_sem]) <;> rfl) ?_); rintro _ _ ⟨x, p, rfl, hx, hp, rfl⟩ <;> (simp only [go_sem]))
  have hx2 := tys 4 x hx
  have hm := l1Mutate bs hB p (by omega) x.ty (by rw [T.ty_size]; omega)
  ((first | refine wd_cl [1] (by (simp only [go_sem]) <;> rfl) (hm) ?_ | refine wm_cl [1] (by (simp only [go_sem]) <;> rfl) (hm) (by (simp only [go_sem]) <;> rfl) (by (simp only [go_sem]) <;> rfl) ?_); rintro _ _ ⟨y, q, rfl, hy, hq, rfl⟩ <;> (simp only [go_sem]))
  rw [T.ty_size] at hy
  exact hR _ (ret_at [] (by (simp only [go_sem]) <;> rfl) (by (simp only [go_sem]) <;> rfl) ⟨y, rfl, by omega, rfl⟩)
theorem dRefine (l : List Int) (hl : Code8 l) : ACl Try.prog 34 [.one (.sl (byR l))] [] One1 := by
  have ho := dTypeValid l hl
  refine acl_in Try.func34 rfl isfn_34 (Nat.le_of_ble_eq_true rfl) (fun R hR => ?_); rw [Try.results34] at hR; refine wg_run ?_; (simp only [Try.f34, go_sem])
  ((first | refine wd_cl [] (by (simp only [go_sem]) <;> rfl) (ho) ?_ | refine wm_cl [] (by (simp only [go_sem]) <;> rfl) (ho) (by (simp only [go_sem]) <;> rfl) (by (simp only [go_sem]) <;> rfl) ?_); rintro _ _ ⟨x, rfl, hx, rfl⟩ <;> (simp only [go_sem]))
  exact hR _ (ret_at [] (by (simp only [go_sem]) <;> rfl) (by (simp only [go_sem]) <;> rfl) ⟨x, rfl, hx, rfl⟩)
end Go.Proofs.Ytkkijdlgmlffoaa
