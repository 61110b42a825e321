/- Types: validity in the program; checks behind validity. On shadows. -/
import Derived.Test.YtkkijdlgmlffoaaTF3
import Derived.Test.YtkkijdlgmlffoaaOnT
namespace Go.Proofs.Ytkkijdlgmlffoaa
open Go.RowKit Go.Proofs.Sh Go.Proofs.Grad
set_option maxRecDepth 100000
set_option maxHeartbeats 4000000
theorem kidsN_le (k : Int) : kidsN k ≤ 2 := by unfold kidsN; split <;> (try split) <;> omega
theorem iScan (m : Nat) (hm : m ≤ 4) : ∀ t : Ty, AFn Try.prog 52 [.agg (tyC t), .one (.sc (.int .i64 (5 - (m : Int))))] (.one (.sc (.bool (t.shape m)))) := by
  induction m with
  | zero =>
    intro t
    refine fn_in ?_; refine acl_in Try.func52 rfl isfn_52 (Nat.le_of_ble_eq_true rfl) (fun R hR => ?_); rw [Try.results52] at hR; refine wg_run ?_; (simp only [Try.f52, go_sem])
    repeat' (first | ((first | refine wd_split _ (fun hb => ?_) (fun hb => ?_) | refine wd_nwant _ (fun hb => ?_) (fun hb => ?_) | refine wm_nwant _ (fun hb => ?_) (fun hb => ?_) | refine wd_want _ (fun hb => ?_) (fun hb => ?_) | refine wm_want _ (fun hb => ?_) (fun hb => ?_)) <;> (simp only [go_sem, hb])) | (refine wm_done ?_; (simp only [go_sem])) | (refine wg_run ?_; (simp only [go_sem])))
    all_goals (refine hR _ (ret_at [] (by (simp only [go_sem]) <;> rfl) (by (simp only [go_sem]) <;> rfl) ⟨?_, rfl⟩))
    all_goals rfl
  | succ m ih =>
    intro t
    have hd : decide (5 - ((m + 1 : Nat) : Int) ≤ 4) = true := by simp; omega
    have hw : IntKind.i64.wrap (5 - ((m + 1 : Nat) : Int) + 1) = 5 - (m : Int) := by rw [IntWalk.i64_in _ (by omega)]; omega
    have hc : t.kids.length < 3 → ACl Try.prog 69 [.one (.sl (tyR t.kids)), .one (.fn 70 [.ptr 1 0 0 0])] [⟨1, 3, .mut, [[.sc (.int .i64 (5 - ((m + 1 : Nat) : Int)))]]⟩] (fun r H' => r = .one (.sc (.bool (t.kids.any (fun x => !x.shape m)))) ∧ H' = [⟨1, 3, .mut, [[.sc (.int .i64 (5 - ((m + 1 : Nat) : Int)))]]⟩]) := by
      intro hl
      refine containsFunc1 _ _ (fun x => !x.shape m) _ (by omega) ?_
      intro k hk
      refine acl_in Try.func70 rfl isfn_70 (Nat.le_of_ble_eq_true rfl) (fun R hR => ?_); rw [Try.results70] at hR; refine wg_run ?_; (simp only [Try.f70, go_sem])
      (simp only [go_sem, hw])
      (first | refine wd_fn (by (simp only [go_sem]) <;> rfl) (ih (by omega) _) ?_ | refine wm_fn (by (simp only [go_sem]) <;> rfl) (ih (by omega) _) (by (simp only [go_sem]) <;> rfl) (by (simp only [go_sem]) <;> rfl) ?_); (simp only [go_sem])
      (refine hR _ (ret_at [] (by (simp only [go_sem]) <;> rfl) (by (simp only [go_sem]) <;> rfl) ⟨?_, ?_⟩))
      · rfl
      · rfl
    clear ih
    refine fn_in ?_; refine acl_in Try.func52 rfl isfn_52 (Nat.le_of_ble_eq_true rfl) (fun R hR => ?_); rw [Try.results52] at hR; refine wg_run ?_; (simp only [Try.f52, go_sem])
    repeat' (first | (first | ((first | refine wd_split _ (fun hb => ?_) (fun hb => ?_) | refine wd_nwant _ (fun hb => ?_) (fun hb => ?_) | refine wm_nwant _ (fun hb => ?_) (fun hb => ?_) | refine wd_want _ (fun hb => ?_) (fun hb => ?_) | refine wm_want _ (fun hb => ?_) (fun hb => ?_)) <;> (simp only [go_sem, hb, hd])) | (refine wm_done ?_; (simp only [go_sem, hd])) | (refine wg_run ?_; (simp only [go_sem, hd])) | (simp only [go_sem, hd])) | (first | refine wd_cl [1] (by (simp only [go_sem]) <;> rfl) (hc (by have := beq_iff_eq.1 hb; omega)) ?_ | refine wm_cl [1] (by (simp only [go_sem]) <;> rfl) (hc (by have := beq_iff_eq.1 hb; omega)) (by (simp only [go_sem]) <;> rfl) (by (simp only [go_sem]) <;> rfl) ?_); rintro _ _ ⟨rfl, rfl⟩; (simp only [go_sem]))
    all_goals (refine hR _ (ret_at [] (by (simp only [go_sem]) <;> rfl) (by (simp only [go_sem]) <;> rfl) ⟨?_, rfl⟩))
    all_goals clear hR hc
    all_goals simp_all [Ty.shape, kidsN, List.all_eq_not_any_not]
theorem iValid (t : Ty) : AFn Try.prog 25 [.agg (tyC t)] (.one (.sc (.bool t.valid))) := by
  refine fn_in ?_; refine acl_in Try.func25 rfl isfn_25 (Nat.le_of_ble_eq_true rfl) (fun R hR => ?_); rw [Try.results25] at hR; refine wg_run ?_; (simp only [Try.f25, go_sem])
  (first | refine wd_fn (by (simp only [go_sem]) <;> rfl) (iScan 4 (by omega) _) ?_ | refine wm_fn (by (simp only [go_sem]) <;> rfl) (iScan 4 (by omega) _) (by (simp only [go_sem]) <;> rfl) (by (simp only [go_sem]) <;> rfl) ?_); (simp only [go_sem])
  (refine hR _ (ret_at [] (by (simp only [go_sem]) <;> rfl) (by (simp only [go_sem]) <;> rfl) ⟨?_, rfl⟩))
  rfl
theorem Ty.valid_16 {t : Ty} (h : t.valid = true) : t.size < 16 := by
  obtain ⟨x, rfl, hx⟩ := (Ty.valid_iff t).1 h
  rw [T.ty_size]
  have : ∀ (x : T) (d : Nat), x.depth ≤ d → d ≤ 4 → x.size < 2 ^ d := by
    intro x
    induction x with
    | any | int | bool => intro d h1 h2; simp only [T.depth, T.size] at *; exact Nat.one_lt_two_pow (by omega)
    | fn a b iha ihb | pr a b iha ihb =>
      intro d h1 h2
      simp only [T.depth, T.size] at *
      obtain ⟨d, rfl⟩ : ∃ e, d = e + 1 := ⟨d - 1, by omega⟩
      have := iha d (by omega) (by omega); have := ihb d (by omega) (by omega)
      rw [Nat.pow_succ]; omega
  have := this x 4 hx (Nat.le_refl _)
  omega
theorem Ty.valid_size {t : Ty} (h : t.valid = true) : t.size < 4611686018427387904 := by have := Ty.valid_16 h; omega
-- written by gen_on.py
theorem iConsistent (a b : Ty) : AFn Try.prog 22 [.agg (tyC a), .agg (tyC b)] (.one (.sc (.bool (onT T.cons a b)))) := by
  have va := iValid a
  have vb := iValid b
  by_cases ha : a.valid = true
  · rw [ha] at va
    by_cases hb' : b.valid = true
    · rw [hb'] at vb
      have hf := fun (x y : T) (e1 : x.ty = a) (e2 : y.ty = b) => by have h := iCons _ (Nat.le_refl _) a b (Ty.valid_size ha); rw [← e1, ← e2, T.cons_ty] at h; exact h
      obtain ⟨x, rfl, hx⟩ := (Ty.valid_iff a).1 ha
      obtain ⟨y, rfl, hy⟩ := (Ty.valid_iff b).1 hb'
      have hf := hf x y rfl rfl
      rw [onT_ty _ hx hy]
      clear ha hb'
      refine fn_in ?_; refine acl_in Try.func22 rfl isfn_22 (Nat.le_of_ble_eq_true rfl) (fun R hR => ?_); rw [Try.results22] at hR; refine wg_run ?_; (simp only [Try.f22, go_sem])
      repeat' (first | (first | ((first | refine wd_split _ (fun hb => ?_) (fun hb => ?_) | refine wd_nwant _ (fun hb => ?_) (fun hb => ?_) | refine wm_nwant _ (fun hb => ?_) (fun hb => ?_) | refine wd_want _ (fun hb => ?_) (fun hb => ?_) | refine wm_want _ (fun hb => ?_) (fun hb => ?_)) <;> (simp only [go_sem, hb])) | (refine wm_done ?_; (simp only [go_sem])) | (refine wg_run ?_; (simp only [go_sem]))) | (first | refine wd_fn (by (simp only [go_sem]) <;> rfl) (va) ?_ | refine wm_fn (by (simp only [go_sem]) <;> rfl) (va) (by (simp only [go_sem]) <;> rfl) (by (simp only [go_sem]) <;> rfl) ?_); (simp only [go_sem]) | (first | refine wd_fn (by (simp only [go_sem]) <;> rfl) (vb) ?_ | refine wm_fn (by (simp only [go_sem]) <;> rfl) (vb) (by (simp only [go_sem]) <;> rfl) (by (simp only [go_sem]) <;> rfl) ?_); (simp only [go_sem]) | (first | refine wd_fn (by (simp only [go_sem]) <;> rfl) (hf) ?_ | refine wm_fn (by (simp only [go_sem]) <;> rfl) (hf) (by (simp only [go_sem]) <;> rfl) (by (simp only [go_sem]) <;> rfl) ?_); (simp only [go_sem]) | ((first | refine wd_mix 6 [] follows (by decide +kernel) (by (simp only [go_sem]) <;> rfl) ?_ | refine wd_mix 5 [] follows (by decide +kernel) (by (simp only [go_sem]) <;> rfl) ?_ | refine wd_mix 4 [] follows (by decide +kernel) (by (simp only [go_sem]) <;> rfl) ?_ | refine wd_mix 3 [] follows (by decide +kernel) (by (simp only [go_sem]) <;> rfl) ?_ | refine wd_mix 2 [] follows (by decide +kernel) (by (simp only [go_sem]) <;> rfl) ?_ | refine wd_mix 1 [] follows (by decide +kernel) (by (simp only [go_sem]) <;> rfl) ?_ | refine wd_mix 0 [] follows (by decide +kernel) (by (simp only [go_sem]) <;> rfl) ?_); (simp only [go_sem])))
      all_goals (refine hR _ (ret_at [] (by (simp only [go_sem]) <;> rfl) (by (simp only [go_sem]) <;> rfl) ⟨rfl, rfl⟩))
    · rw [Bool.not_eq_true] at hb'
      rw [onT_off _ (by simp [hb'])]
      rw [hb'] at vb
      clear ha hb'
      refine fn_in ?_; refine acl_in Try.func22 rfl isfn_22 (Nat.le_of_ble_eq_true rfl) (fun R hR => ?_); rw [Try.results22] at hR; refine wg_run ?_; (simp only [Try.f22, go_sem])
      repeat' (first | (first | ((first | refine wd_split _ (fun hb => ?_) (fun hb => ?_) | refine wd_nwant _ (fun hb => ?_) (fun hb => ?_) | refine wm_nwant _ (fun hb => ?_) (fun hb => ?_) | refine wd_want _ (fun hb => ?_) (fun hb => ?_) | refine wm_want _ (fun hb => ?_) (fun hb => ?_)) <;> (simp only [go_sem, hb])) | (refine wm_done ?_; (simp only [go_sem])) | (refine wg_run ?_; (simp only [go_sem]))) | (first | refine wd_fn (by (simp only [go_sem]) <;> rfl) (va) ?_ | refine wm_fn (by (simp only [go_sem]) <;> rfl) (va) (by (simp only [go_sem]) <;> rfl) (by (simp only [go_sem]) <;> rfl) ?_); (simp only [go_sem]) | (first | refine wd_fn (by (simp only [go_sem]) <;> rfl) (vb) ?_ | refine wm_fn (by (simp only [go_sem]) <;> rfl) (vb) (by (simp only [go_sem]) <;> rfl) (by (simp only [go_sem]) <;> rfl) ?_); (simp only [go_sem]) | ((first | refine wd_mix 6 [] follows (by decide +kernel) (by (simp only [go_sem]) <;> rfl) ?_ | refine wd_mix 5 [] follows (by decide +kernel) (by (simp only [go_sem]) <;> rfl) ?_ | refine wd_mix 4 [] follows (by decide +kernel) (by (simp only [go_sem]) <;> rfl) ?_ | refine wd_mix 3 [] follows (by decide +kernel) (by (simp only [go_sem]) <;> rfl) ?_ | refine wd_mix 2 [] follows (by decide +kernel) (by (simp only [go_sem]) <;> rfl) ?_ | refine wd_mix 1 [] follows (by decide +kernel) (by (simp only [go_sem]) <;> rfl) ?_ | refine wd_mix 0 [] follows (by decide +kernel) (by (simp only [go_sem]) <;> rfl) ?_); (simp only [go_sem])))
      all_goals (refine hR _ (ret_at [] (by (simp only [go_sem]) <;> rfl) (by (simp only [go_sem]) <;> rfl) ⟨rfl, rfl⟩))
  · rw [Bool.not_eq_true] at ha
    rw [onT_off _ (by simp [ha])]
    rw [ha] at va
    clear ha
    refine fn_in ?_; refine acl_in Try.func22 rfl isfn_22 (Nat.le_of_ble_eq_true rfl) (fun R hR => ?_); rw [Try.results22] at hR; refine wg_run ?_; (simp only [Try.f22, go_sem])
    repeat' (first | (first | ((first | refine wd_split _ (fun hb => ?_) (fun hb => ?_) | refine wd_nwant _ (fun hb => ?_) (fun hb => ?_) | refine wm_nwant _ (fun hb => ?_) (fun hb => ?_) | refine wd_want _ (fun hb => ?_) (fun hb => ?_) | refine wm_want _ (fun hb => ?_) (fun hb => ?_)) <;> (simp only [go_sem, hb])) | (refine wm_done ?_; (simp only [go_sem])) | (refine wg_run ?_; (simp only [go_sem]))) | (first | refine wd_fn (by (simp only [go_sem]) <;> rfl) (va) ?_ | refine wm_fn (by (simp only [go_sem]) <;> rfl) (va) (by (simp only [go_sem]) <;> rfl) (by (simp only [go_sem]) <;> rfl) ?_); (simp only [go_sem]) | ((first | refine wd_mix 6 [] follows (by decide +kernel) (by (simp only [go_sem]) <;> rfl) ?_ | refine wd_mix 5 [] follows (by decide +kernel) (by (simp only [go_sem]) <;> rfl) ?_ | refine wd_mix 4 [] follows (by decide +kernel) (by (simp only [go_sem]) <;> rfl) ?_ | refine wd_mix 3 [] follows (by decide +kernel) (by (simp only [go_sem]) <;> rfl) ?_ | refine wd_mix 2 [] follows (by decide +kernel) (by (simp only [go_sem]) <;> rfl) ?_ | refine wd_mix 1 [] follows (by decide +kernel) (by (simp only [go_sem]) <;> rfl) ?_ | refine wd_mix 0 [] follows (by decide +kernel) (by (simp only [go_sem]) <;> rfl) ?_); (simp only [go_sem])))
    all_goals (refine hR _ (ret_at [] (by (simp only [go_sem]) <;> rfl) (by (simp only [go_sem]) <;> rfl) ⟨rfl, rfl⟩))
theorem iPrecise (a b : Ty) : AFn Try.prog 24 [.agg (tyC a), .agg (tyC b)] (.one (.sc (.bool (onT T.prec a b)))) := by
  have va := iValid a
  have vb := iValid b
  by_cases ha : a.valid = true
  · rw [ha] at va
    by_cases hb' : b.valid = true
    · rw [hb'] at vb
      have hf := fun (x y : T) (e1 : x.ty = a) (e2 : y.ty = b) => by have h := iPrec _ (Nat.le_refl _) a b (Ty.valid_size ha); rw [← e1, ← e2, T.prec_ty] at h; exact h
      obtain ⟨x, rfl, hx⟩ := (Ty.valid_iff a).1 ha
      obtain ⟨y, rfl, hy⟩ := (Ty.valid_iff b).1 hb'
      have hf := hf x y rfl rfl
      rw [onT_ty _ hx hy]
      clear ha hb'
      refine fn_in ?_; refine acl_in Try.func24 rfl isfn_24 (Nat.le_of_ble_eq_true rfl) (fun R hR => ?_); rw [Try.results24] at hR; refine wg_run ?_; (simp only [Try.f24, go_sem])
      repeat' (first | (first | ((first | refine wd_split _ (fun hb => ?_) (fun hb => ?_) | refine wd_nwant _ (fun hb => ?_) (fun hb => ?_) | refine wm_nwant _ (fun hb => ?_) (fun hb => ?_) | refine wd_want _ (fun hb => ?_) (fun hb => ?_) | refine wm_want _ (fun hb => ?_) (fun hb => ?_)) <;> (simp only [go_sem, hb])) | (refine wm_done ?_; (simp only [go_sem])) | (refine wg_run ?_; (simp only [go_sem]))) | (first | refine wd_fn (by (simp only [go_sem]) <;> rfl) (va) ?_ | refine wm_fn (by (simp only [go_sem]) <;> rfl) (va) (by (simp only [go_sem]) <;> rfl) (by (simp only [go_sem]) <;> rfl) ?_); (simp only [go_sem]) | (first | refine wd_fn (by (simp only [go_sem]) <;> rfl) (vb) ?_ | refine wm_fn (by (simp only [go_sem]) <;> rfl) (vb) (by (simp only [go_sem]) <;> rfl) (by (simp only [go_sem]) <;> rfl) ?_); (simp only [go_sem]) | (first | refine wd_fn (by (simp only [go_sem]) <;> rfl) (hf) ?_ | refine wm_fn (by (simp only [go_sem]) <;> rfl) (hf) (by (simp only [go_sem]) <;> rfl) (by (simp only [go_sem]) <;> rfl) ?_); (simp only [go_sem]) | ((first | refine wd_mix 6 [] follows (by decide +kernel) (by (simp only [go_sem]) <;> rfl) ?_ | refine wd_mix 5 [] follows (by decide +kernel) (by (simp only [go_sem]) <;> rfl) ?_ | refine wd_mix 4 [] follows (by decide +kernel) (by (simp only [go_sem]) <;> rfl) ?_ | refine wd_mix 3 [] follows (by decide +kernel) (by (simp only [go_sem]) <;> rfl) ?_ | refine wd_mix 2 [] follows (by decide +kernel) (by (simp only [go_sem]) <;> rfl) ?_ | refine wd_mix 1 [] follows (by decide +kernel) (by (simp only [go_sem]) <;> rfl) ?_ | refine wd_mix 0 [] follows (by decide +kernel) (by (simp only [go_sem]) <;> rfl) ?_); (simp only [go_sem])))
      all_goals (refine hR _ (ret_at [] (by (simp only [go_sem]) <;> rfl) (by (simp only [go_sem]) <;> rfl) ⟨rfl, rfl⟩))
    · rw [Bool.not_eq_true] at hb'
      rw [onT_off _ (by simp [hb'])]
      rw [hb'] at vb
      clear ha hb'
      refine fn_in ?_; refine acl_in Try.func24 rfl isfn_24 (Nat.le_of_ble_eq_true rfl) (fun R hR => ?_); rw [Try.results24] at hR; refine wg_run ?_; (simp only [Try.f24, go_sem])
      repeat' (first | (first | ((first | refine wd_split _ (fun hb => ?_) (fun hb => ?_) | refine wd_nwant _ (fun hb => ?_) (fun hb => ?_) | refine wm_nwant _ (fun hb => ?_) (fun hb => ?_) | refine wd_want _ (fun hb => ?_) (fun hb => ?_) | refine wm_want _ (fun hb => ?_) (fun hb => ?_)) <;> (simp only [go_sem, hb])) | (refine wm_done ?_; (simp only [go_sem])) | (refine wg_run ?_; (simp only [go_sem]))) | (first | refine wd_fn (by (simp only [go_sem]) <;> rfl) (va) ?_ | refine wm_fn (by (simp only [go_sem]) <;> rfl) (va) (by (simp only [go_sem]) <;> rfl) (by (simp only [go_sem]) <;> rfl) ?_); (simp only [go_sem]) | (first | refine wd_fn (by (simp only [go_sem]) <;> rfl) (vb) ?_ | refine wm_fn (by (simp only [go_sem]) <;> rfl) (vb) (by (simp only [go_sem]) <;> rfl) (by (simp only [go_sem]) <;> rfl) ?_); (simp only [go_sem]) | ((first | refine wd_mix 6 [] follows (by decide +kernel) (by (simp only [go_sem]) <;> rfl) ?_ | refine wd_mix 5 [] follows (by decide +kernel) (by (simp only [go_sem]) <;> rfl) ?_ | refine wd_mix 4 [] follows (by decide +kernel) (by (simp only [go_sem]) <;> rfl) ?_ | refine wd_mix 3 [] follows (by decide +kernel) (by (simp only [go_sem]) <;> rfl) ?_ | refine wd_mix 2 [] follows (by decide +kernel) (by (simp only [go_sem]) <;> rfl) ?_ | refine wd_mix 1 [] follows (by decide +kernel) (by (simp only [go_sem]) <;> rfl) ?_ | refine wd_mix 0 [] follows (by decide +kernel) (by (simp only [go_sem]) <;> rfl) ?_); (simp only [go_sem])))
      all_goals (refine hR _ (ret_at [] (by (simp only [go_sem]) <;> rfl) (by (simp only [go_sem]) <;> rfl) ⟨rfl, rfl⟩))
  · rw [Bool.not_eq_true] at ha
    rw [onT_off _ (by simp [ha])]
    rw [ha] at va
    clear ha
    refine fn_in ?_; refine acl_in Try.func24 rfl isfn_24 (Nat.le_of_ble_eq_true rfl) (fun R hR => ?_); rw [Try.results24] at hR; refine wg_run ?_; (simp only [Try.f24, go_sem])
    repeat' (first | (first | ((first | refine wd_split _ (fun hb => ?_) (fun hb => ?_) | refine wd_nwant _ (fun hb => ?_) (fun hb => ?_) | refine wm_nwant _ (fun hb => ?_) (fun hb => ?_) | refine wd_want _ (fun hb => ?_) (fun hb => ?_) | refine wm_want _ (fun hb => ?_) (fun hb => ?_)) <;> (simp only [go_sem, hb])) | (refine wm_done ?_; (simp only [go_sem])) | (refine wg_run ?_; (simp only [go_sem]))) | (first | refine wd_fn (by (simp only [go_sem]) <;> rfl) (va) ?_ | refine wm_fn (by (simp only [go_sem]) <;> rfl) (va) (by (simp only [go_sem]) <;> rfl) (by (simp only [go_sem]) <;> rfl) ?_); (simp only [go_sem]) | ((first | refine wd_mix 6 [] follows (by decide +kernel) (by (simp only [go_sem]) <;> rfl) ?_ | refine wd_mix 5 [] follows (by decide +kernel) (by (simp only [go_sem]) <;> rfl) ?_ | refine wd_mix 4 [] follows (by decide +kernel) (by (simp only [go_sem]) <;> rfl) ?_ | refine wd_mix 3 [] follows (by decide +kernel) (by (simp only [go_sem]) <;> rfl) ?_ | refine wd_mix 2 [] follows (by decide +kernel) (by (simp only [go_sem]) <;> rfl) ?_ | refine wd_mix 1 [] follows (by decide +kernel) (by (simp only [go_sem]) <;> rfl) ?_ | refine wd_mix 0 [] follows (by decide +kernel) (by (simp only [go_sem]) <;> rfl) ?_); (simp only [go_sem])))
    all_goals (refine hR _ (ret_at [] (by (simp only [go_sem]) <;> rfl) (by (simp only [go_sem]) <;> rfl) ⟨rfl, rfl⟩))
-- end
end Go.Proofs.Ytkkijdlgmlffoaa
