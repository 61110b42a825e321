/- Subtyping behind validity, on shadows. -/
import Derived.Test.YtkkijdlgmlffoaaTF2s
import Derived.Test.YtkkijdlgmlffoaaTF2p
import Derived.Test.YtkkijdlgmlffoaaTF2i
import Derived.Test.YtkkijdlgmlffoaaTF2n
import Derived.Test.YtkkijdlgmlffoaaTF4
namespace Go.Proofs.Ytkkijdlgmlffoaa
open Go.RowKit Go.Proofs.Sh Go.Proofs.Grad
set_option maxRecDepth 100000
set_option maxHeartbeats 4000000
-- written by gen_on.py
theorem iSubtypeV (a b : Ty) : AFn Try.prog 15 [.agg (tyC a), .agg (tyC b)] (.one (.sc (.bool (onT T.sub a b)))) := by
  have va := iValid a
  have vb := iValid b
  by_cases ha : a.valid = true
  · rw [ha] at va
    by_cases hb' : b.valid = true
    · rw [hb'] at vb
      have hf := fun (x y : T) (e1 : x.ty = a) (e2 : y.ty = b) => iSubtype _ x y (Nat.lt_succ_self _)
      obtain ⟨x, rfl, hx⟩ := (Ty.valid_iff a).1 ha
      obtain ⟨y, rfl, hy⟩ := (Ty.valid_iff b).1 hb'
      have hf := hf x y rfl rfl
      rw [onT_ty _ hx hy]
      clear ha hb'
      refine fn_in ?_; refine acl_in Try.func15 rfl isfn_15 (Nat.le_of_ble_eq_true rfl) (fun R hR => ?_); rw [Try.results15] at hR; refine wg_run ?_; (simp only [Try.f15, go_sem])
      repeat' (first | (first | ((first | refine wd_split _ (fun hb => ?_) (fun hb => ?_) | refine wd_nwant _ (fun hb => ?_) (fun hb => ?_) | refine wm_nwant _ (fun hb => ?_) (fun hb => ?_) | refine wd_want _ (fun hb => ?_) (fun hb => ?_) | refine wm_want _ (fun hb => ?_) (fun hb => ?_)) <;> (simp only [go_sem, hb])) | (refine wm_done ?_; (simp only [go_sem])) | (refine wg_run ?_; (simp only [go_sem]))) | (first | refine wd_fn (by (simp only [go_sem]) <;> rfl) (va) ?_ | refine wm_fn (by (simp only [go_sem]) <;> rfl) (va) (by (simp only [go_sem]) <;> rfl) (by (simp only [go_sem]) <;> rfl) ?_); (simp only [go_sem]) | (first | refine wd_fn (by (simp only [go_sem]) <;> rfl) (vb) ?_ | refine wm_fn (by (simp only [go_sem]) <;> rfl) (vb) (by (simp only [go_sem]) <;> rfl) (by (simp only [go_sem]) <;> rfl) ?_); (simp only [go_sem]) | (first | refine wd_fn (by (simp only [go_sem]) <;> rfl) (hf) ?_ | refine wm_fn (by (simp only [go_sem]) <;> rfl) (hf) (by (simp only [go_sem]) <;> rfl) (by (simp only [go_sem]) <;> rfl) ?_); (simp only [go_sem]) | ((first | refine wd_mix 6 [] follows (by decide +kernel) (by (simp only [go_sem]) <;> rfl) ?_ | refine wd_mix 5 [] follows (by decide +kernel) (by (simp only [go_sem]) <;> rfl) ?_ | refine wd_mix 4 [] follows (by decide +kernel) (by (simp only [go_sem]) <;> rfl) ?_ | refine wd_mix 3 [] follows (by decide +kernel) (by (simp only [go_sem]) <;> rfl) ?_ | refine wd_mix 2 [] follows (by decide +kernel) (by (simp only [go_sem]) <;> rfl) ?_ | refine wd_mix 1 [] follows (by decide +kernel) (by (simp only [go_sem]) <;> rfl) ?_ | refine wd_mix 0 [] follows (by decide +kernel) (by (simp only [go_sem]) <;> rfl) ?_); (simp only [go_sem])))
      all_goals (refine hR _ (ret_at [] (by (simp only [go_sem]) <;> rfl) (by (simp only [go_sem]) <;> rfl) ⟨rfl, rfl⟩))
    · rw [Bool.not_eq_true] at hb'
      rw [onT_off _ (by simp [hb'])]
      rw [hb'] at vb
      clear ha hb'
      refine fn_in ?_; refine acl_in Try.func15 rfl isfn_15 (Nat.le_of_ble_eq_true rfl) (fun R hR => ?_); rw [Try.results15] at hR; refine wg_run ?_; (simp only [Try.f15, go_sem])
      repeat' (first | (first | ((first | refine wd_split _ (fun hb => ?_) (fun hb => ?_) | refine wd_nwant _ (fun hb => ?_) (fun hb => ?_) | refine wm_nwant _ (fun hb => ?_) (fun hb => ?_) | refine wd_want _ (fun hb => ?_) (fun hb => ?_) | refine wm_want _ (fun hb => ?_) (fun hb => ?_)) <;> (simp only [go_sem, hb])) | (refine wm_done ?_; (simp only [go_sem])) | (refine wg_run ?_; (simp only [go_sem]))) | (first | refine wd_fn (by (simp only [go_sem]) <;> rfl) (va) ?_ | refine wm_fn (by (simp only [go_sem]) <;> rfl) (va) (by (simp only [go_sem]) <;> rfl) (by (simp only [go_sem]) <;> rfl) ?_); (simp only [go_sem]) | (first | refine wd_fn (by (simp only [go_sem]) <;> rfl) (vb) ?_ | refine wm_fn (by (simp only [go_sem]) <;> rfl) (vb) (by (simp only [go_sem]) <;> rfl) (by (simp only [go_sem]) <;> rfl) ?_); (simp only [go_sem]) | ((first | refine wd_mix 6 [] follows (by decide +kernel) (by (simp only [go_sem]) <;> rfl) ?_ | refine wd_mix 5 [] follows (by decide +kernel) (by (simp only [go_sem]) <;> rfl) ?_ | refine wd_mix 4 [] follows (by decide +kernel) (by (simp only [go_sem]) <;> rfl) ?_ | refine wd_mix 3 [] follows (by decide +kernel) (by (simp only [go_sem]) <;> rfl) ?_ | refine wd_mix 2 [] follows (by decide +kernel) (by (simp only [go_sem]) <;> rfl) ?_ | refine wd_mix 1 [] follows (by decide +kernel) (by (simp only [go_sem]) <;> rfl) ?_ | refine wd_mix 0 [] follows (by decide +kernel) (by (simp only [go_sem]) <;> rfl) ?_); (simp only [go_sem])))
      all_goals (refine hR _ (ret_at [] (by (simp only [go_sem]) <;> rfl) (by (simp only [go_sem]) <;> rfl) ⟨rfl, rfl⟩))
  · rw [Bool.not_eq_true] at ha
    rw [onT_off _ (by simp [ha])]
    rw [ha] at va
    clear ha
    refine fn_in ?_; refine acl_in Try.func15 rfl isfn_15 (Nat.le_of_ble_eq_true rfl) (fun R hR => ?_); rw [Try.results15] at hR; refine wg_run ?_; (simp only [Try.f15, go_sem])
    repeat' (first | (first | ((first | refine wd_split _ (fun hb => ?_) (fun hb => ?_) | refine wd_nwant _ (fun hb => ?_) (fun hb => ?_) | refine wm_nwant _ (fun hb => ?_) (fun hb => ?_) | refine wd_want _ (fun hb => ?_) (fun hb => ?_) | refine wm_want _ (fun hb => ?_) (fun hb => ?_)) <;> (simp only [go_sem, hb])) | (refine wm_done ?_; (simp only [go_sem])) | (refine wg_run ?_; (simp only [go_sem]))) | (first | refine wd_fn (by (simp only [go_sem]) <;> rfl) (va) ?_ | refine wm_fn (by (simp only [go_sem]) <;> rfl) (va) (by (simp only [go_sem]) <;> rfl) (by (simp only [go_sem]) <;> rfl) ?_); (simp only [go_sem]) | ((first | refine wd_mix 6 [] follows (by decide +kernel) (by (simp only [go_sem]) <;> rfl) ?_ | refine wd_mix 5 [] follows (by decide +kernel) (by (simp only [go_sem]) <;> rfl) ?_ | refine wd_mix 4 [] follows (by decide +kernel) (by (simp only [go_sem]) <;> rfl) ?_ | refine wd_mix 3 [] follows (by decide +kernel) (by (simp only [go_sem]) <;> rfl) ?_ | refine wd_mix 2 [] follows (by decide +kernel) (by (simp only [go_sem]) <;> rfl) ?_ | refine wd_mix 1 [] follows (by decide +kernel) (by (simp only [go_sem]) <;> rfl) ?_ | refine wd_mix 0 [] follows (by decide +kernel) (by (simp only [go_sem]) <;> rfl) ?_); (simp only [go_sem])))
    all_goals (refine hR _ (ret_at [] (by (simp only [go_sem]) <;> rfl) (by (simp only [go_sem]) <;> rfl) ⟨rfl, rfl⟩))
theorem iPosV (a b : Ty) : AFn Try.prog 20 [.agg (tyC a), .agg (tyC b)] (.one (.sc (.bool (onT T.pos a b)))) := by
  have va := iValid a
  have vb := iValid b
  by_cases ha : a.valid = true
  · rw [ha] at va
    by_cases hb' : b.valid = true
    · rw [hb'] at vb
      have hf := fun (x y : T) (e1 : x.ty = a) (e2 : y.ty = b) => (iPN _).1 x y (Nat.lt_succ_self _)
      obtain ⟨x, rfl, hx⟩ := (Ty.valid_iff a).1 ha
      obtain ⟨y, rfl, hy⟩ := (Ty.valid_iff b).1 hb'
      have hf := hf x y rfl rfl
      rw [onT_ty _ hx hy]
      clear ha hb'
      refine fn_in ?_; refine acl_in Try.func20 rfl isfn_20 (Nat.le_of_ble_eq_true rfl) (fun R hR => ?_); rw [Try.results20] at hR; refine wg_run ?_; (simp only [Try.f20, go_sem])
      repeat' (first | (first | ((first | refine wd_split _ (fun hb => ?_) (fun hb => ?_) | refine wd_nwant _ (fun hb => ?_) (fun hb => ?_) | refine wm_nwant _ (fun hb => ?_) (fun hb => ?_) | refine wd_want _ (fun hb => ?_) (fun hb => ?_) | refine wm_want _ (fun hb => ?_) (fun hb => ?_)) <;> (simp only [go_sem, hb])) | (refine wm_done ?_; (simp only [go_sem])) | (refine wg_run ?_; (simp only [go_sem]))) | (first | refine wd_fn (by (simp only [go_sem]) <;> rfl) (va) ?_ | refine wm_fn (by (simp only [go_sem]) <;> rfl) (va) (by (simp only [go_sem]) <;> rfl) (by (simp only [go_sem]) <;> rfl) ?_); (simp only [go_sem]) | (first | refine wd_fn (by (simp only [go_sem]) <;> rfl) (vb) ?_ | refine wm_fn (by (simp only [go_sem]) <;> rfl) (vb) (by (simp only [go_sem]) <;> rfl) (by (simp only [go_sem]) <;> rfl) ?_); (simp only [go_sem]) | (first | refine wd_fn (by (simp only [go_sem]) <;> rfl) (hf) ?_ | refine wm_fn (by (simp only [go_sem]) <;> rfl) (hf) (by (simp only [go_sem]) <;> rfl) (by (simp only [go_sem]) <;> rfl) ?_); (simp only [go_sem]) | ((first | refine wd_mix 6 [] follows (by decide +kernel) (by (simp only [go_sem]) <;> rfl) ?_ | refine wd_mix 5 [] follows (by decide +kernel) (by (simp only [go_sem]) <;> rfl) ?_ | refine wd_mix 4 [] follows (by decide +kernel) (by (simp only [go_sem]) <;> rfl) ?_ | refine wd_mix 3 [] follows (by decide +kernel) (by (simp only [go_sem]) <;> rfl) ?_ | refine wd_mix 2 [] follows (by decide +kernel) (by (simp only [go_sem]) <;> rfl) ?_ | refine wd_mix 1 [] follows (by decide +kernel) (by (simp only [go_sem]) <;> rfl) ?_ | refine wd_mix 0 [] follows (by decide +kernel) (by (simp only [go_sem]) <;> rfl) ?_); (simp only [go_sem])))
      all_goals (refine hR _ (ret_at [] (by (simp only [go_sem]) <;> rfl) (by (simp only [go_sem]) <;> rfl) ⟨rfl, rfl⟩))
    · rw [Bool.not_eq_true] at hb'
      rw [onT_off _ (by simp [hb'])]
      rw [hb'] at vb
      clear ha hb'
      refine fn_in ?_; refine acl_in Try.func20 rfl isfn_20 (Nat.le_of_ble_eq_true rfl) (fun R hR => ?_); rw [Try.results20] at hR; refine wg_run ?_; (simp only [Try.f20, go_sem])
      repeat' (first | (first | ((first | refine wd_split _ (fun hb => ?_) (fun hb => ?_) | refine wd_nwant _ (fun hb => ?_) (fun hb => ?_) | refine wm_nwant _ (fun hb => ?_) (fun hb => ?_) | refine wd_want _ (fun hb => ?_) (fun hb => ?_) | refine wm_want _ (fun hb => ?_) (fun hb => ?_)) <;> (simp only [go_sem, hb])) | (refine wm_done ?_; (simp only [go_sem])) | (refine wg_run ?_; (simp only [go_sem]))) | (first | refine wd_fn (by (simp only [go_sem]) <;> rfl) (va) ?_ | refine wm_fn (by (simp only [go_sem]) <;> rfl) (va) (by (simp only [go_sem]) <;> rfl) (by (simp only [go_sem]) <;> rfl) ?_); (simp only [go_sem]) | (first | refine wd_fn (by (simp only [go_sem]) <;> rfl) (vb) ?_ | refine wm_fn (by (simp only [go_sem]) <;> rfl) (vb) (by (simp only [go_sem]) <;> rfl) (by (simp only [go_sem]) <;> rfl) ?_); (simp only [go_sem]) | ((first | refine wd_mix 6 [] follows (by decide +kernel) (by (simp only [go_sem]) <;> rfl) ?_ | refine wd_mix 5 [] follows (by decide +kernel) (by (simp only [go_sem]) <;> rfl) ?_ | refine wd_mix 4 [] follows (by decide +kernel) (by (simp only [go_sem]) <;> rfl) ?_ | refine wd_mix 3 [] follows (by decide +kernel) (by (simp only [go_sem]) <;> rfl) ?_ | refine wd_mix 2 [] follows (by decide +kernel) (by (simp only [go_sem]) <;> rfl) ?_ | refine wd_mix 1 [] follows (by decide +kernel) (by (simp only [go_sem]) <;> rfl) ?_ | refine wd_mix 0 [] follows (by decide +kernel) (by (simp only [go_sem]) <;> rfl) ?_); (simp only [go_sem])))
      all_goals (refine hR _ (ret_at [] (by (simp only [go_sem]) <;> rfl) (by (simp only [go_sem]) <;> rfl) ⟨rfl, rfl⟩))
  · rw [Bool.not_eq_true] at ha
    rw [onT_off _ (by simp [ha])]
    rw [ha] at va
    clear ha
    refine fn_in ?_; refine acl_in Try.func20 rfl isfn_20 (Nat.le_of_ble_eq_true rfl) (fun R hR => ?_); rw [Try.results20] at hR; refine wg_run ?_; (simp only [Try.f20, go_sem])
    repeat' (first | (first | ((first | refine wd_split _ (fun hb => ?_) (fun hb => ?_) | refine wd_nwant _ (fun hb => ?_) (fun hb => ?_) | refine wm_nwant _ (fun hb => ?_) (fun hb => ?_) | refine wd_want _ (fun hb => ?_) (fun hb => ?_) | refine wm_want _ (fun hb => ?_) (fun hb => ?_)) <;> (simp only [go_sem, hb])) | (refine wm_done ?_; (simp only [go_sem])) | (refine wg_run ?_; (simp only [go_sem]))) | (first | refine wd_fn (by (simp only [go_sem]) <;> rfl) (va) ?_ | refine wm_fn (by (simp only [go_sem]) <;> rfl) (va) (by (simp only [go_sem]) <;> rfl) (by (simp only [go_sem]) <;> rfl) ?_); (simp only [go_sem]) | ((first | refine wd_mix 6 [] follows (by decide +kernel) (by (simp only [go_sem]) <;> rfl) ?_ | refine wd_mix 5 [] follows (by decide +kernel) (by (simp only [go_sem]) <;> rfl) ?_ | refine wd_mix 4 [] follows (by decide +kernel) (by (simp only [go_sem]) <;> rfl) ?_ | refine wd_mix 3 [] follows (by decide +kernel) (by (simp only [go_sem]) <;> rfl) ?_ | refine wd_mix 2 [] follows (by decide +kernel) (by (simp only [go_sem]) <;> rfl) ?_ | refine wd_mix 1 [] follows (by decide +kernel) (by (simp only [go_sem]) <;> rfl) ?_ | refine wd_mix 0 [] follows (by decide +kernel) (by (simp only [go_sem]) <;> rfl) ?_); (simp only [go_sem])))
    all_goals (refine hR _ (ret_at [] (by (simp only [go_sem]) <;> rfl) (by (simp only [go_sem]) <;> rfl) ⟨rfl, rfl⟩))
theorem iNegV (a b : Ty) : AFn Try.prog 18 [.agg (tyC a), .agg (tyC b)] (.one (.sc (.bool (onT T.neg a b)))) := by
  have va := iValid a
  have vb := iValid b
  by_cases ha : a.valid = true
  · rw [ha] at va
    by_cases hb' : b.valid = true
    · rw [hb'] at vb
      have hf := fun (x y : T) (e1 : x.ty = a) (e2 : y.ty = b) => (iPN _).2 x y (Nat.lt_succ_self _)
      obtain ⟨x, rfl, hx⟩ := (Ty.valid_iff a).1 ha
      obtain ⟨y, rfl, hy⟩ := (Ty.valid_iff b).1 hb'
      have hf := hf x y rfl rfl
      rw [onT_ty _ hx hy]
      clear ha hb'
      refine fn_in ?_; refine acl_in Try.func18 rfl isfn_18 (Nat.le_of_ble_eq_true rfl) (fun R hR => ?_); rw [Try.results18] at hR; refine wg_run ?_; (simp only [Try.f18, go_sem])
      repeat' (first | (first | ((first | refine wd_split _ (fun hb => ?_) (fun hb => ?_) | refine wd_nwant _ (fun hb => ?_) (fun hb => ?_) | refine wm_nwant _ (fun hb => ?_) (fun hb => ?_) | refine wd_want _ (fun hb => ?_) (fun hb => ?_) | refine wm_want _ (fun hb => ?_) (fun hb => ?_)) <;> (simp only [go_sem, hb])) | (refine wm_done ?_; (simp only [go_sem])) | (refine wg_run ?_; (simp only [go_sem]))) | (first | refine wd_fn (by (simp only [go_sem]) <;> rfl) (va) ?_ | refine wm_fn (by (simp only [go_sem]) <;> rfl) (va) (by (simp only [go_sem]) <;> rfl) (by (simp only [go_sem]) <;> rfl) ?_); (simp only [go_sem]) | (first | refine wd_fn (by (simp only [go_sem]) <;> rfl) (vb) ?_ | refine wm_fn (by (simp only [go_sem]) <;> rfl) (vb) (by (simp only [go_sem]) <;> rfl) (by (simp only [go_sem]) <;> rfl) ?_); (simp only [go_sem]) | (first | refine wd_fn (by (simp only [go_sem]) <;> rfl) (hf) ?_ | refine wm_fn (by (simp only [go_sem]) <;> rfl) (hf) (by (simp only [go_sem]) <;> rfl) (by (simp only [go_sem]) <;> rfl) ?_); (simp only [go_sem]) | ((first | refine wd_mix 6 [] follows (by decide +kernel) (by (simp only [go_sem]) <;> rfl) ?_ | refine wd_mix 5 [] follows (by decide +kernel) (by (simp only [go_sem]) <;> rfl) ?_ | refine wd_mix 4 [] follows (by decide +kernel) (by (simp only [go_sem]) <;> rfl) ?_ | refine wd_mix 3 [] follows (by decide +kernel) (by (simp only [go_sem]) <;> rfl) ?_ | refine wd_mix 2 [] follows (by decide +kernel) (by (simp only [go_sem]) <;> rfl) ?_ | refine wd_mix 1 [] follows (by decide +kernel) (by (simp only [go_sem]) <;> rfl) ?_ | refine wd_mix 0 [] follows (by decide +kernel) (by (simp only [go_sem]) <;> rfl) ?_); (simp only [go_sem])))
      all_goals (refine hR _ (ret_at [] (by (simp only [go_sem]) <;> rfl) (by (simp only [go_sem]) <;> rfl) ⟨rfl, rfl⟩))
    · rw [Bool.not_eq_true] at hb'
      rw [onT_off _ (by simp [hb'])]
      rw [hb'] at vb
      clear ha hb'
      refine fn_in ?_; refine acl_in Try.func18 rfl isfn_18 (Nat.le_of_ble_eq_true rfl) (fun R hR => ?_); rw [Try.results18] at hR; refine wg_run ?_; (simp only [Try.f18, go_sem])
      repeat' (first | (first | ((first | refine wd_split _ (fun hb => ?_) (fun hb => ?_) | refine wd_nwant _ (fun hb => ?_) (fun hb => ?_) | refine wm_nwant _ (fun hb => ?_) (fun hb => ?_) | refine wd_want _ (fun hb => ?_) (fun hb => ?_) | refine wm_want _ (fun hb => ?_) (fun hb => ?_)) <;> (simp only [go_sem, hb])) | (refine wm_done ?_; (simp only [go_sem])) | (refine wg_run ?_; (simp only [go_sem]))) | (first | refine wd_fn (by (simp only [go_sem]) <;> rfl) (va) ?_ | refine wm_fn (by (simp only [go_sem]) <;> rfl) (va) (by (simp only [go_sem]) <;> rfl) (by (simp only [go_sem]) <;> rfl) ?_); (simp only [go_sem]) | (first | refine wd_fn (by (simp only [go_sem]) <;> rfl) (vb) ?_ | refine wm_fn (by (simp only [go_sem]) <;> rfl) (vb) (by (simp only [go_sem]) <;> rfl) (by (simp only [go_sem]) <;> rfl) ?_); (simp only [go_sem]) | ((first | refine wd_mix 6 [] follows (by decide +kernel) (by (simp only [go_sem]) <;> rfl) ?_ | refine wd_mix 5 [] follows (by decide +kernel) (by (simp only [go_sem]) <;> rfl) ?_ | refine wd_mix 4 [] follows (by decide +kernel) (by (simp only [go_sem]) <;> rfl) ?_ | refine wd_mix 3 [] follows (by decide +kernel) (by (simp only [go_sem]) <;> rfl) ?_ | refine wd_mix 2 [] follows (by decide +kernel) (by (simp only [go_sem]) <;> rfl) ?_ | refine wd_mix 1 [] follows (by decide +kernel) (by (simp only [go_sem]) <;> rfl) ?_ | refine wd_mix 0 [] follows (by decide +kernel) (by (simp only [go_sem]) <;> rfl) ?_); (simp only [go_sem])))
      all_goals (refine hR _ (ret_at [] (by (simp only [go_sem]) <;> rfl) (by (simp only [go_sem]) <;> rfl) ⟨rfl, rfl⟩))
  · rw [Bool.not_eq_true] at ha
    rw [onT_off _ (by simp [ha])]
    rw [ha] at va
    clear ha
    refine fn_in ?_; refine acl_in Try.func18 rfl isfn_18 (Nat.le_of_ble_eq_true rfl) (fun R hR => ?_); rw [Try.results18] at hR; refine wg_run ?_; (simp only [Try.f18, go_sem])
    repeat' (first | (first | ((first | refine wd_split _ (fun hb => ?_) (fun hb => ?_) | refine wd_nwant _ (fun hb => ?_) (fun hb => ?_) | refine wm_nwant _ (fun hb => ?_) (fun hb => ?_) | refine wd_want _ (fun hb => ?_) (fun hb => ?_) | refine wm_want _ (fun hb => ?_) (fun hb => ?_)) <;> (simp only [go_sem, hb])) | (refine wm_done ?_; (simp only [go_sem])) | (refine wg_run ?_; (simp only [go_sem]))) | (first | refine wd_fn (by (simp only [go_sem]) <;> rfl) (va) ?_ | refine wm_fn (by (simp only [go_sem]) <;> rfl) (va) (by (simp only [go_sem]) <;> rfl) (by (simp only [go_sem]) <;> rfl) ?_); (simp only [go_sem]) | ((first | refine wd_mix 6 [] follows (by decide +kernel) (by (simp only [go_sem]) <;> rfl) ?_ | refine wd_mix 5 [] follows (by decide +kernel) (by (simp only [go_sem]) <;> rfl) ?_ | refine wd_mix 4 [] follows (by decide +kernel) (by (simp only [go_sem]) <;> rfl) ?_ | refine wd_mix 3 [] follows (by decide +kernel) (by (simp only [go_sem]) <;> rfl) ?_ | refine wd_mix 2 [] follows (by decide +kernel) (by (simp only [go_sem]) <;> rfl) ?_ | refine wd_mix 1 [] follows (by decide +kernel) (by (simp only [go_sem]) <;> rfl) ?_ | refine wd_mix 0 [] follows (by decide +kernel) (by (simp only [go_sem]) <;> rfl) ?_); (simp only [go_sem])))
    all_goals (refine hR _ (ret_at [] (by (simp only [go_sem]) <;> rfl) (by (simp only [go_sem]) <;> rfl) ⟨rfl, rfl⟩))
theorem sSubtypeV (a b : Ty) : AFn Try.prog 13 [.agg (tyC a), .agg (tyC b)] (.one (.sc (.bool (onT T.sub a b)))) := by
  have va := sValid a
  have vb := sValid b
  by_cases ha : a.valid = true
  · rw [ha] at va
    by_cases hb' : b.valid = true
    · rw [hb'] at vb
      have hf := fun (x y : T) (e1 : x.ty = a) (e2 : y.ty = b) => l8Sub _ x y (Nat.lt_succ_self _)
      obtain ⟨x, rfl, hx⟩ := (Ty.valid_iff a).1 ha
      obtain ⟨y, rfl, hy⟩ := (Ty.valid_iff b).1 hb'
      have hf := hf x y rfl rfl
      rw [onT_ty _ hx hy]
      clear ha hb'
      refine fn_in ?_; refine acl_in Try.func13 rfl isfn_13 (Nat.le_of_ble_eq_true rfl) (fun R hR => ?_); rw [Try.results13] at hR; refine wg_run ?_; (simp only [Try.f13, go_sem])
      repeat' (first | (first | ((first | refine wd_split _ (fun hb => ?_) (fun hb => ?_) | refine wd_nwant _ (fun hb => ?_) (fun hb => ?_) | refine wm_nwant _ (fun hb => ?_) (fun hb => ?_) | refine wd_want _ (fun hb => ?_) (fun hb => ?_) | refine wm_want _ (fun hb => ?_) (fun hb => ?_)) <;> (simp only [go_sem, hb])) | (refine wm_done ?_; (simp only [go_sem])) | (refine wg_run ?_; (simp only [go_sem]))) | (first | refine wd_fn (by (simp only [go_sem]) <;> rfl) (va) ?_ | refine wm_fn (by (simp only [go_sem]) <;> rfl) (va) (by (simp only [go_sem]) <;> rfl) (by (simp only [go_sem]) <;> rfl) ?_); (simp only [go_sem]) | (first | refine wd_fn (by (simp only [go_sem]) <;> rfl) (vb) ?_ | refine wm_fn (by (simp only [go_sem]) <;> rfl) (vb) (by (simp only [go_sem]) <;> rfl) (by (simp only [go_sem]) <;> rfl) ?_); (simp only [go_sem]) | (first | refine wd_fn (by (simp only [go_sem]) <;> rfl) (hf) ?_ | refine wm_fn (by (simp only [go_sem]) <;> rfl) (hf) (by (simp only [go_sem]) <;> rfl) (by (simp only [go_sem]) <;> rfl) ?_); (simp only [go_sem]) | ((first | refine wd_mix 6 [] follows (by decide +kernel) (by (simp only [go_sem]) <;> rfl) ?_ | refine wd_mix 5 [] follows (by decide +kernel) (by (simp only [go_sem]) <;> rfl) ?_ | refine wd_mix 4 [] follows (by decide +kernel) (by (simp only [go_sem]) <;> rfl) ?_ | refine wd_mix 3 [] follows (by decide +kernel) (by (simp only [go_sem]) <;> rfl) ?_ | refine wd_mix 2 [] follows (by decide +kernel) (by (simp only [go_sem]) <;> rfl) ?_ | refine wd_mix 1 [] follows (by decide +kernel) (by (simp only [go_sem]) <;> rfl) ?_ | refine wd_mix 0 [] follows (by decide +kernel) (by (simp only [go_sem]) <;> rfl) ?_); (simp only [go_sem])))
      all_goals (refine hR _ (ret_at [] (by (simp only [go_sem]) <;> rfl) (by (simp only [go_sem]) <;> rfl) ⟨rfl, rfl⟩))
    · rw [Bool.not_eq_true] at hb'
      rw [onT_off _ (by simp [hb'])]
      rw [hb'] at vb
      clear ha hb'
      refine fn_in ?_; refine acl_in Try.func13 rfl isfn_13 (Nat.le_of_ble_eq_true rfl) (fun R hR => ?_); rw [Try.results13] at hR; refine wg_run ?_; (simp only [Try.f13, go_sem])
      repeat' (first | (first | ((first | refine wd_split _ (fun hb => ?_) (fun hb => ?_) | refine wd_nwant _ (fun hb => ?_) (fun hb => ?_) | refine wm_nwant _ (fun hb => ?_) (fun hb => ?_) | refine wd_want _ (fun hb => ?_) (fun hb => ?_) | refine wm_want _ (fun hb => ?_) (fun hb => ?_)) <;> (simp only [go_sem, hb])) | (refine wm_done ?_; (simp only [go_sem])) | (refine wg_run ?_; (simp only [go_sem]))) | (first | refine wd_fn (by (simp only [go_sem]) <;> rfl) (va) ?_ | refine wm_fn (by (simp only [go_sem]) <;> rfl) (va) (by (simp only [go_sem]) <;> rfl) (by (simp only [go_sem]) <;> rfl) ?_); (simp only [go_sem]) | (first | refine wd_fn (by (simp only [go_sem]) <;> rfl) (vb) ?_ | refine wm_fn (by (simp only [go_sem]) <;> rfl) (vb) (by (simp only [go_sem]) <;> rfl) (by (simp only [go_sem]) <;> rfl) ?_); (simp only [go_sem]) | ((first | refine wd_mix 6 [] follows (by decide +kernel) (by (simp only [go_sem]) <;> rfl) ?_ | refine wd_mix 5 [] follows (by decide +kernel) (by (simp only [go_sem]) <;> rfl) ?_ | refine wd_mix 4 [] follows (by decide +kernel) (by (simp only [go_sem]) <;> rfl) ?_ | refine wd_mix 3 [] follows (by decide +kernel) (by (simp only [go_sem]) <;> rfl) ?_ | refine wd_mix 2 [] follows (by decide +kernel) (by (simp only [go_sem]) <;> rfl) ?_ | refine wd_mix 1 [] follows (by decide +kernel) (by (simp only [go_sem]) <;> rfl) ?_ | refine wd_mix 0 [] follows (by decide +kernel) (by (simp only [go_sem]) <;> rfl) ?_); (simp only [go_sem])))
      all_goals (refine hR _ (ret_at [] (by (simp only [go_sem]) <;> rfl) (by (simp only [go_sem]) <;> rfl) ⟨rfl, rfl⟩))
  · rw [Bool.not_eq_true] at ha
    rw [onT_off _ (by simp [ha])]
    rw [ha] at va
    clear ha
    refine fn_in ?_; refine acl_in Try.func13 rfl isfn_13 (Nat.le_of_ble_eq_true rfl) (fun R hR => ?_); rw [Try.results13] at hR; refine wg_run ?_; (simp only [Try.f13, go_sem])
    repeat' (first | (first | ((first | refine wd_split _ (fun hb => ?_) (fun hb => ?_) | refine wd_nwant _ (fun hb => ?_) (fun hb => ?_) | refine wm_nwant _ (fun hb => ?_) (fun hb => ?_) | refine wd_want _ (fun hb => ?_) (fun hb => ?_) | refine wm_want _ (fun hb => ?_) (fun hb => ?_)) <;> (simp only [go_sem, hb])) | (refine wm_done ?_; (simp only [go_sem])) | (refine wg_run ?_; (simp only [go_sem]))) | (first | refine wd_fn (by (simp only [go_sem]) <;> rfl) (va) ?_ | refine wm_fn (by (simp only [go_sem]) <;> rfl) (va) (by (simp only [go_sem]) <;> rfl) (by (simp only [go_sem]) <;> rfl) ?_); (simp only [go_sem]) | ((first | refine wd_mix 6 [] follows (by decide +kernel) (by (simp only [go_sem]) <;> rfl) ?_ | refine wd_mix 5 [] follows (by decide +kernel) (by (simp only [go_sem]) <;> rfl) ?_ | refine wd_mix 4 [] follows (by decide +kernel) (by (simp only [go_sem]) <;> rfl) ?_ | refine wd_mix 3 [] follows (by decide +kernel) (by (simp only [go_sem]) <;> rfl) ?_ | refine wd_mix 2 [] follows (by decide +kernel) (by (simp only [go_sem]) <;> rfl) ?_ | refine wd_mix 1 [] follows (by decide +kernel) (by (simp only [go_sem]) <;> rfl) ?_ | refine wd_mix 0 [] follows (by decide +kernel) (by (simp only [go_sem]) <;> rfl) ?_); (simp only [go_sem])))
    all_goals (refine hR _ (ret_at [] (by (simp only [go_sem]) <;> rfl) (by (simp only [go_sem]) <;> rfl) ⟨rfl, rfl⟩))
theorem sPosV (a b : Ty) : AFn Try.prog 19 [.agg (tyC a), .agg (tyC b)] (.one (.sc (.bool (onT T.pos a b)))) := by
  have va := sValid a
  have vb := sValid b
  by_cases ha : a.valid = true
  · rw [ha] at va
    by_cases hb' : b.valid = true
    · rw [hb'] at vb
      have hf := fun (x y : T) (e1 : x.ty = a) (e2 : y.ty = b) => (l8PN _).1 x y (Nat.lt_succ_self _)
      obtain ⟨x, rfl, hx⟩ := (Ty.valid_iff a).1 ha
      obtain ⟨y, rfl, hy⟩ := (Ty.valid_iff b).1 hb'
      have hf := hf x y rfl rfl
      rw [onT_ty _ hx hy]
      clear ha hb'
      refine fn_in ?_; refine acl_in Try.func19 rfl isfn_19 (Nat.le_of_ble_eq_true rfl) (fun R hR => ?_); rw [Try.results19] at hR; refine wg_run ?_; (simp only [Try.f19, go_sem])
      repeat' (first | (first | ((first | refine wd_split _ (fun hb => ?_) (fun hb => ?_) | refine wd_nwant _ (fun hb => ?_) (fun hb => ?_) | refine wm_nwant _ (fun hb => ?_) (fun hb => ?_) | refine wd_want _ (fun hb => ?_) (fun hb => ?_) | refine wm_want _ (fun hb => ?_) (fun hb => ?_)) <;> (simp only [go_sem, hb])) | (refine wm_done ?_; (simp only [go_sem])) | (refine wg_run ?_; (simp only [go_sem]))) | (first | refine wd_fn (by (simp only [go_sem]) <;> rfl) (va) ?_ | refine wm_fn (by (simp only [go_sem]) <;> rfl) (va) (by (simp only [go_sem]) <;> rfl) (by (simp only [go_sem]) <;> rfl) ?_); (simp only [go_sem]) | (first | refine wd_fn (by (simp only [go_sem]) <;> rfl) (vb) ?_ | refine wm_fn (by (simp only [go_sem]) <;> rfl) (vb) (by (simp only [go_sem]) <;> rfl) (by (simp only [go_sem]) <;> rfl) ?_); (simp only [go_sem]) | (first | refine wd_fn (by (simp only [go_sem]) <;> rfl) (hf) ?_ | refine wm_fn (by (simp only [go_sem]) <;> rfl) (hf) (by (simp only [go_sem]) <;> rfl) (by (simp only [go_sem]) <;> rfl) ?_); (simp only [go_sem]) | ((first | refine wd_mix 6 [] follows (by decide +kernel) (by (simp only [go_sem]) <;> rfl) ?_ | refine wd_mix 5 [] follows (by decide +kernel) (by (simp only [go_sem]) <;> rfl) ?_ | refine wd_mix 4 [] follows (by decide +kernel) (by (simp only [go_sem]) <;> rfl) ?_ | refine wd_mix 3 [] follows (by decide +kernel) (by (simp only [go_sem]) <;> rfl) ?_ | refine wd_mix 2 [] follows (by decide +kernel) (by (simp only [go_sem]) <;> rfl) ?_ | refine wd_mix 1 [] follows (by decide +kernel) (by (simp only [go_sem]) <;> rfl) ?_ | refine wd_mix 0 [] follows (by decide +kernel) (by (simp only [go_sem]) <;> rfl) ?_); (simp only [go_sem])))
      all_goals (refine hR _ (ret_at [] (by (simp only [go_sem]) <;> rfl) (by (simp only [go_sem]) <;> rfl) ⟨rfl, rfl⟩))
    · rw [Bool.not_eq_true] at hb'
      rw [onT_off _ (by simp [hb'])]
      rw [hb'] at vb
      clear ha hb'
      refine fn_in ?_; refine acl_in Try.func19 rfl isfn_19 (Nat.le_of_ble_eq_true rfl) (fun R hR => ?_); rw [Try.results19] at hR; refine wg_run ?_; (simp only [Try.f19, go_sem])
      repeat' (first | (first | ((first | refine wd_split _ (fun hb => ?_) (fun hb => ?_) | refine wd_nwant _ (fun hb => ?_) (fun hb => ?_) | refine wm_nwant _ (fun hb => ?_) (fun hb => ?_) | refine wd_want _ (fun hb => ?_) (fun hb => ?_) | refine wm_want _ (fun hb => ?_) (fun hb => ?_)) <;> (simp only [go_sem, hb])) | (refine wm_done ?_; (simp only [go_sem])) | (refine wg_run ?_; (simp only [go_sem]))) | (first | refine wd_fn (by (simp only [go_sem]) <;> rfl) (va) ?_ | refine wm_fn (by (simp only [go_sem]) <;> rfl) (va) (by (simp only [go_sem]) <;> rfl) (by (simp only [go_sem]) <;> rfl) ?_); (simp only [go_sem]) | (first | refine wd_fn (by (simp only [go_sem]) <;> rfl) (vb) ?_ | refine wm_fn (by (simp only [go_sem]) <;> rfl) (vb) (by (simp only [go_sem]) <;> rfl) (by (simp only [go_sem]) <;> rfl) ?_); (simp only [go_sem]) | ((first | refine wd_mix 6 [] follows (by decide +kernel) (by (simp only [go_sem]) <;> rfl) ?_ | refine wd_mix 5 [] follows (by decide +kernel) (by (simp only [go_sem]) <;> rfl) ?_ | refine wd_mix 4 [] follows (by decide +kernel) (by (simp only [go_sem]) <;> rfl) ?_ | refine wd_mix 3 [] follows (by decide +kernel) (by (simp only [go_sem]) <;> rfl) ?_ | refine wd_mix 2 [] follows (by decide +kernel) (by (simp only [go_sem]) <;> rfl) ?_ | refine wd_mix 1 [] follows (by decide +kernel) (by (simp only [go_sem]) <;> rfl) ?_ | refine wd_mix 0 [] follows (by decide +kernel) (by (simp only [go_sem]) <;> rfl) ?_); (simp only [go_sem])))
      all_goals (refine hR _ (ret_at [] (by (simp only [go_sem]) <;> rfl) (by (simp only [go_sem]) <;> rfl) ⟨rfl, rfl⟩))
  · rw [Bool.not_eq_true] at ha
    rw [onT_off _ (by simp [ha])]
    rw [ha] at va
    clear ha
    refine fn_in ?_; refine acl_in Try.func19 rfl isfn_19 (Nat.le_of_ble_eq_true rfl) (fun R hR => ?_); rw [Try.results19] at hR; refine wg_run ?_; (simp only [Try.f19, go_sem])
    repeat' (first | (first | ((first | refine wd_split _ (fun hb => ?_) (fun hb => ?_) | refine wd_nwant _ (fun hb => ?_) (fun hb => ?_) | refine wm_nwant _ (fun hb => ?_) (fun hb => ?_) | refine wd_want _ (fun hb => ?_) (fun hb => ?_) | refine wm_want _ (fun hb => ?_) (fun hb => ?_)) <;> (simp only [go_sem, hb])) | (refine wm_done ?_; (simp only [go_sem])) | (refine wg_run ?_; (simp only [go_sem]))) | (first | refine wd_fn (by (simp only [go_sem]) <;> rfl) (va) ?_ | refine wm_fn (by (simp only [go_sem]) <;> rfl) (va) (by (simp only [go_sem]) <;> rfl) (by (simp only [go_sem]) <;> rfl) ?_); (simp only [go_sem]) | ((first | refine wd_mix 6 [] follows (by decide +kernel) (by (simp only [go_sem]) <;> rfl) ?_ | refine wd_mix 5 [] follows (by decide +kernel) (by (simp only [go_sem]) <;> rfl) ?_ | refine wd_mix 4 [] follows (by decide +kernel) (by (simp only [go_sem]) <;> rfl) ?_ | refine wd_mix 3 [] follows (by decide +kernel) (by (simp only [go_sem]) <;> rfl) ?_ | refine wd_mix 2 [] follows (by decide +kernel) (by (simp only [go_sem]) <;> rfl) ?_ | refine wd_mix 1 [] follows (by decide +kernel) (by (simp only [go_sem]) <;> rfl) ?_ | refine wd_mix 0 [] follows (by decide +kernel) (by (simp only [go_sem]) <;> rfl) ?_); (simp only [go_sem])))
    all_goals (refine hR _ (ret_at [] (by (simp only [go_sem]) <;> rfl) (by (simp only [go_sem]) <;> rfl) ⟨rfl, rfl⟩))
theorem sNegV (a b : Ty) : AFn Try.prog 17 [.agg (tyC a), .agg (tyC b)] (.one (.sc (.bool (onT T.neg a b)))) := by
  have va := sValid a
  have vb := sValid b
  by_cases ha : a.valid = true
  · rw [ha] at va
    by_cases hb' : b.valid = true
    · rw [hb'] at vb
      have hf := fun (x y : T) (e1 : x.ty = a) (e2 : y.ty = b) => (l8PN _).2 x y (Nat.lt_succ_self _)
      obtain ⟨x, rfl, hx⟩ := (Ty.valid_iff a).1 ha
      obtain ⟨y, rfl, hy⟩ := (Ty.valid_iff b).1 hb'
      have hf := hf x y rfl rfl
      rw [onT_ty _ hx hy]
      clear ha hb'
      refine fn_in ?_; refine acl_in Try.func17 rfl isfn_17 (Nat.le_of_ble_eq_true rfl) (fun R hR => ?_); rw [Try.results17] at hR; refine wg_run ?_; (simp only [Try.f17, go_sem])
      repeat' (first | (first | ((first | refine wd_split _ (fun hb => ?_) (fun hb => ?_) | refine wd_nwant _ (fun hb => ?_) (fun hb => ?_) | refine wm_nwant _ (fun hb => ?_) (fun hb => ?_) | refine wd_want _ (fun hb => ?_) (fun hb => ?_) | refine wm_want _ (fun hb => ?_) (fun hb => ?_)) <;> (simp only [go_sem, hb])) | (refine wm_done ?_; (simp only [go_sem])) | (refine wg_run ?_; (simp only [go_sem]))) | (first | refine wd_fn (by (simp only [go_sem]) <;> rfl) (va) ?_ | refine wm_fn (by (simp only [go_sem]) <;> rfl) (va) (by (simp only [go_sem]) <;> rfl) (by (simp only [go_sem]) <;> rfl) ?_); (simp only [go_sem]) | (first | refine wd_fn (by (simp only [go_sem]) <;> rfl) (vb) ?_ | refine wm_fn (by (simp only [go_sem]) <;> rfl) (vb) (by (simp only [go_sem]) <;> rfl) (by (simp only [go_sem]) <;> rfl) ?_); (simp only [go_sem]) | (first | refine wd_fn (by (simp only [go_sem]) <;> rfl) (hf) ?_ | refine wm_fn (by (simp only [go_sem]) <;> rfl) (hf) (by (simp only [go_sem]) <;> rfl) (by (simp only [go_sem]) <;> rfl) ?_); (simp only [go_sem]) | ((first | refine wd_mix 6 [] follows (by decide +kernel) (by (simp only [go_sem]) <;> rfl) ?_ | refine wd_mix 5 [] follows (by decide +kernel) (by (simp only [go_sem]) <;> rfl) ?_ | refine wd_mix 4 [] follows (by decide +kernel) (by (simp only [go_sem]) <;> rfl) ?_ | refine wd_mix 3 [] follows (by decide +kernel) (by (simp only [go_sem]) <;> rfl) ?_ | refine wd_mix 2 [] follows (by decide +kernel) (by (simp only [go_sem]) <;> rfl) ?_ | refine wd_mix 1 [] follows (by decide +kernel) (by (simp only [go_sem]) <;> rfl) ?_ | refine wd_mix 0 [] follows (by decide +kernel) (by (simp only [go_sem]) <;> rfl) ?_); (simp only [go_sem])))
      all_goals (refine hR _ (ret_at [] (by (simp only [go_sem]) <;> rfl) (by (simp only [go_sem]) <;> rfl) ⟨rfl, rfl⟩))
    · rw [Bool.not_eq_true] at hb'
      rw [onT_off _ (by simp [hb'])]
      rw [hb'] at vb
      clear ha hb'
      refine fn_in ?_; refine acl_in Try.func17 rfl isfn_17 (Nat.le_of_ble_eq_true rfl) (fun R hR => ?_); rw [Try.results17] at hR; refine wg_run ?_; (simp only [Try.f17, go_sem])
      repeat' (first | (first | ((first | refine wd_split _ (fun hb => ?_) (fun hb => ?_) | refine wd_nwant _ (fun hb => ?_) (fun hb => ?_) | refine wm_nwant _ (fun hb => ?_) (fun hb => ?_) | refine wd_want _ (fun hb => ?_) (fun hb => ?_) | refine wm_want _ (fun hb => ?_) (fun hb => ?_)) <;> (simp only [go_sem, hb])) | (refine wm_done ?_; (simp only [go_sem])) | (refine wg_run ?_; (simp only [go_sem]))) | (first | refine wd_fn (by (simp only [go_sem]) <;> rfl) (va) ?_ | refine wm_fn (by (simp only [go_sem]) <;> rfl) (va) (by (simp only [go_sem]) <;> rfl) (by (simp only [go_sem]) <;> rfl) ?_); (simp only [go_sem]) | (first | refine wd_fn (by (simp only [go_sem]) <;> rfl) (vb) ?_ | refine wm_fn (by (simp only [go_sem]) <;> rfl) (vb) (by (simp only [go_sem]) <;> rfl) (by (simp only [go_sem]) <;> rfl) ?_); (simp only [go_sem]) | ((first | refine wd_mix 6 [] follows (by decide +kernel) (by (simp only [go_sem]) <;> rfl) ?_ | refine wd_mix 5 [] follows (by decide +kernel) (by (simp only [go_sem]) <;> rfl) ?_ | refine wd_mix 4 [] follows (by decide +kernel) (by (simp only [go_sem]) <;> rfl) ?_ | refine wd_mix 3 [] follows (by decide +kernel) (by (simp only [go_sem]) <;> rfl) ?_ | refine wd_mix 2 [] follows (by decide +kernel) (by (simp only [go_sem]) <;> rfl) ?_ | refine wd_mix 1 [] follows (by decide +kernel) (by (simp only [go_sem]) <;> rfl) ?_ | refine wd_mix 0 [] follows (by decide +kernel) (by (simp only [go_sem]) <;> rfl) ?_); (simp only [go_sem])))
      all_goals (refine hR _ (ret_at [] (by (simp only [go_sem]) <;> rfl) (by (simp only [go_sem]) <;> rfl) ⟨rfl, rfl⟩))
  · rw [Bool.not_eq_true] at ha
    rw [onT_off _ (by simp [ha])]
    rw [ha] at va
    clear ha
    refine fn_in ?_; refine acl_in Try.func17 rfl isfn_17 (Nat.le_of_ble_eq_true rfl) (fun R hR => ?_); rw [Try.results17] at hR; refine wg_run ?_; (simp only [Try.f17, go_sem])
    repeat' (first | (first | ((first | refine wd_split _ (fun hb => ?_) (fun hb => ?_) | refine wd_nwant _ (fun hb => ?_) (fun hb => ?_) | refine wm_nwant _ (fun hb => ?_) (fun hb => ?_) | refine wd_want _ (fun hb => ?_) (fun hb => ?_) | refine wm_want _ (fun hb => ?_) (fun hb => ?_)) <;> (simp only [go_sem, hb])) | (refine wm_done ?_; (simp only [go_sem])) | (refine wg_run ?_; (simp only [go_sem]))) | (first | refine wd_fn (by (simp only [go_sem]) <;> rfl) (va) ?_ | refine wm_fn (by (simp only [go_sem]) <;> rfl) (va) (by (simp only [go_sem]) <;> rfl) (by (simp only [go_sem]) <;> rfl) ?_); (simp only [go_sem]) | ((first | refine wd_mix 6 [] follows (by decide +kernel) (by (simp only [go_sem]) <;> rfl) ?_ | refine wd_mix 5 [] follows (by decide +kernel) (by (simp only [go_sem]) <;> rfl) ?_ | refine wd_mix 4 [] follows (by decide +kernel) (by (simp only [go_sem]) <;> rfl) ?_ | refine wd_mix 3 [] follows (by decide +kernel) (by (simp only [go_sem]) <;> rfl) ?_ | refine wd_mix 2 [] follows (by decide +kernel) (by (simp only [go_sem]) <;> rfl) ?_ | refine wd_mix 1 [] follows (by decide +kernel) (by (simp only [go_sem]) <;> rfl) ?_ | refine wd_mix 0 [] follows (by decide +kernel) (by (simp only [go_sem]) <;> rfl) ?_); (simp only [go_sem])))
    all_goals (refine hR _ (ret_at [] (by (simp only [go_sem]) <;> rfl) (by (simp only [go_sem]) <;> rfl) ⟨rfl, rfl⟩))
-- end
end Go.Proofs.Ytkkijdlgmlffoaa
