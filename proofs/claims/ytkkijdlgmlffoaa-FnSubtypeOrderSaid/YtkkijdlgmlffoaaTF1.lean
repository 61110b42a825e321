/- Types: the reference's functions, on shadows. -/
import Derived.Test.YtkkijdlgmlffoaaShTy
import Derived.Test.YtkkijdlgmlffoaaShW
import Derived.Test.YtkkijdlgmlffoaaFa
namespace Go.Proofs.Ytkkijdlgmlffoaa
open Go.RowKit Go.Proofs.Sh Go.Proofs.Grad
set_option maxRecDepth 100000
set_option maxHeartbeats 1000000
@[go_sem] theorem kind_mk (k : Int) (l : List Ty) : (Ty.mk k l).kind = k := rfl
@[go_sem] theorem kids_mk (k : Int) (l : List Ty) : (Ty.mk k l).kids = l := rfl
theorem l1Kids (k : Int) : AFn Try.prog 77 [.one (.sc (.int .i64 k))] (.one (.sc (.int .i64 (kidsN k)))) := by
  refine fn_in ?_; refine acl_in Try.func77 rfl isfn_77 (Nat.le_of_ble_eq_true rfl) (fun R hR => ?_); rw [Try.results77] at hR; refine wg_run ?_; (simp only [Try.f77, go_sem])
  repeat' (first | ((first | refine wd_split _ (fun hb => ?_) (fun hb => ?_) | refine wd_nwant _ (fun hb => ?_) (fun hb => ?_) | refine wm_nwant _ (fun hb => ?_) (fun hb => ?_) | refine wd_want _ (fun hb => ?_) (fun hb => ?_) | refine wm_want _ (fun hb => ?_) (fun hb => ?_)) <;> (simp only [go_sem, hb])) | (refine wm_done ?_; (simp only [go_sem])) | (refine wg_run ?_; (simp only [go_sem])))
  all_goals (refine hR _ (ret_at [] (by (simp only [go_sem]) <;> rfl) (by (simp only [go_sem]) <;> rfl) ⟨?_, rfl⟩))
  all_goals simp_all [kidsN]
@[go_sem] theorem kidsN_1 : kidsN 1 = 0 := rfl
@[go_sem] theorem kidsN_2 : kidsN 2 = 0 := rfl
@[go_sem] theorem kidsN_3 : kidsN 3 = 0 := rfl
@[go_sem] theorem kidsN_4 : kidsN 4 = 2 := rfl
@[go_sem] theorem kidsN_5 : kidsN 5 = 2 := rfl
theorem l1Shape (m : Nat) (hm : m ≤ 4) : ∀ t : Ty, AFn Try.prog 61 [.agg (tyC t), .one (.sc (.int .i64 m))] (.one (.sc (.bool (t.shape m)))) := by
  induction m with
  | zero =>
    intro t
    refine fn_in ?_; refine acl_in Try.func61 rfl isfn_61 (Nat.le_of_ble_eq_true rfl) (fun R hR => ?_); rw [Try.results61] at hR; refine wg_run ?_; (simp only [Try.f61, go_sem])
    (refine wd_mix 0 [] follows (by kernel_rfl) (by (simp only [go_sem]) <;> rfl) ?_; (simp only [go_sem]))
    repeat' (first | ((first | refine wd_split _ (fun hb => ?_) (fun hb => ?_) | refine wd_nwant _ (fun hb => ?_) (fun hb => ?_) | refine wm_nwant _ (fun hb => ?_) (fun hb => ?_) | refine wd_want _ (fun hb => ?_) (fun hb => ?_) | refine wm_want _ (fun hb => ?_) (fun hb => ?_)) <;> (simp only [go_sem, hb])) | (refine wm_done ?_; (simp only [go_sem])) | (refine wg_run ?_; (simp only [go_sem])))
    all_goals (refine hR _ (ret_at [] (by (simp only [go_sem]) <;> rfl) (by (simp only [go_sem]) <;> rfl) ⟨?_, rfl⟩))
    all_goals rfl
  | succ m ih =>
    intro t
    have hd : decide ((((m + 1 : Nat) : Int) < 1)) = false := by simp; omega
    have hw : IntKind.i64.wrap (((m + 1 : Nat) : Int) - 1) = (m : Int) := by rw [IntWalk.i64_in _ (by omega)]; omega
    refine fn_in ?_; refine acl_in Try.func61 rfl isfn_61 (Nat.le_of_ble_eq_true rfl) (fun R hR => ?_); rw [Try.results61] at hR; refine wg_run ?_; (simp only [Try.f61, go_sem])
    (refine wd_mix 0 [] follows (by kernel_rfl) (by (simp only [go_sem]) <;> rfl) ?_; (simp only [go_sem]))
    (simp only [go_sem, hd])
    (first | refine wd_fn (by (simp only [go_sem]) <;> rfl) (l1Kids _) ?_ | refine wm_fn (by (simp only [go_sem]) <;> rfl) (l1Kids _) (by (simp only [go_sem]) <;> rfl) (by (simp only [go_sem]) <;> rfl) ?_); (simp only [go_sem])
    repeat' (first | ((first | refine wd_split _ (fun hb => ?_) (fun hb => ?_) | refine wd_nwant _ (fun hb => ?_) (fun hb => ?_) | refine wm_nwant _ (fun hb => ?_) (fun hb => ?_) | refine wd_want _ (fun hb => ?_) (fun hb => ?_) | refine wm_want _ (fun hb => ?_) (fun hb => ?_)) <;> (simp only [go_sem, hb])) | (refine wm_done ?_; (simp only [go_sem])) | (refine wg_run ?_; (simp only [go_sem])))
    · (refine hR _ (ret_at [] (by (simp only [go_sem]) <;> rfl) (by (simp only [go_sem]) <;> rfl) ⟨?_, rfl⟩))
      simp_all [Ty.shape]
    · refine wd_for [1, 2, 5] (fun k => [.one (.sc (.int .i64 ((m + 1 : Nat) : Int))), .one (.ptr 2 0 0 0), .one (.sc (.int .i64 (k : Nat)))]) (fun k => [⟨2, 29, .mut, [tyC t]⟩])
        (fun k => k ≤ t.kids.length ∧ (t.kids.drop k).all (Ty.shape m) = t.shape (m + 1)) (fun k => t.kids.length - k) 0 ⟨Nat.zero_le _, ?_⟩ (head_at [0] (by (simp only [go_sem]) <;> rfl) (by (simp only [go_sem]) <;> rfl) ⟨rfl, rfl⟩) ?_
      · clear hR
        simp_all [Ty.shape]
      rintro k ⟨hk, hs⟩ G hG
      refine wg_run ?_
      (simp only [go_sem])
      have hl : t.kids.length < 3 := by simp [kidsN] at hb; split at hb <;> try split at hb
                                        all_goals omega
      (first | refine wd_split _ (fun hb => ?_) (fun hb => ?_) | refine wd_nwant _ (fun hb => ?_) (fun hb => ?_) | refine wm_nwant _ (fun hb => ?_) (fun hb => ?_) | refine wd_want _ (fun hb => ?_) (fun hb => ?_) | refine wm_want _ (fun hb => ?_) (fun hb => ?_)) <;> (simp only [go_sem, hb, hw])
      · have hk1 : k < t.kids.length := by have := of_decide_eq_true hb; omega
        rw [drop_kid hk1, List.all_cons] at hs
        have hw1 := wrap_succ hk1 (by omega)
        (first | refine wd_fn (by (simp only [go_sem]) <;> rfl) (ih (by omega) _) ?_ | refine wm_fn (by (simp only [go_sem]) <;> rfl) (ih (by omega) _) (by (simp only [go_sem]) <;> rfl) (by (simp only [go_sem]) <;> rfl) ?_); (simp only [go_sem])
        repeat' (first | ((first | refine wd_split _ (fun hb => ?_) (fun hb => ?_) | refine wd_nwant _ (fun hb => ?_) (fun hb => ?_) | refine wm_nwant _ (fun hb => ?_) (fun hb => ?_) | refine wd_want _ (fun hb => ?_) (fun hb => ?_) | refine wm_want _ (fun hb => ?_) (fun hb => ?_)) <;> (simp only [go_sem, hb, hw1])) | (refine wm_done ?_; (simp only [go_sem, hw1])) | (refine wg_run ?_; (simp only [go_sem, hw1])) | (simp only [go_sem, hw1]))
        · exact hG (k + 1) _ _ ⟨by omega, by simpa [hb] using hs⟩ (by omega) (head_at [0] (by (simp only [go_sem]) <;> rfl) (by (simp only [go_sem]) <;> rfl) ⟨rfl, rfl⟩)
        · (refine hR _ (ret_at [] (by (simp only [go_sem]) <;> rfl) (by (simp only [go_sem]) <;> rfl) ⟨?_, rfl⟩))
          simpa [hb] using hs
      · have hk1 : ¬ k < t.kids.length := by have := of_decide_eq_false hb; omega
        rw [List.drop_eq_nil_of_le (by omega)] at hs
        (refine hR _ (ret_at [] (by (simp only [go_sem]) <;> rfl) (by (simp only [go_sem]) <;> rfl) ⟨?_, rfl⟩))
        simpa using hs
theorem sValid (t : Ty) : AFn Try.prog 37 [.agg (tyC t)] (.one (.sc (.bool t.valid))) := by
  refine fn_in ?_; refine acl_in Try.func37 rfl isfn_37 (Nat.le_of_ble_eq_true rfl) (fun R hR => ?_); rw [Try.results37] at hR; refine wg_run ?_; (simp only [Try.f37, go_sem])
  repeat' (first | (first | ((first | refine wd_split _ (fun hb => ?_) (fun hb => ?_) | refine wd_nwant _ (fun hb => ?_) (fun hb => ?_) | refine wm_nwant _ (fun hb => ?_) (fun hb => ?_) | refine wd_want _ (fun hb => ?_) (fun hb => ?_) | refine wm_want _ (fun hb => ?_) (fun hb => ?_)) <;> (simp only [go_sem, hb])) | (refine wm_done ?_; (simp only [go_sem])) | (refine wg_run ?_; (simp only [go_sem]))) | (first | refine wd_fn (by (simp only [go_sem]) <;> rfl) (l1Shape 4 (by omega) _) ?_ | refine wm_fn (by (simp only [go_sem]) <;> rfl) (l1Shape 4 (by omega) _) (by (simp only [go_sem]) <;> rfl) (by (simp only [go_sem]) <;> rfl) ?_); (simp only [go_sem]))
  (refine hR _ (ret_at [] (by (simp only [go_sem]) <;> rfl) (by (simp only [go_sem]) <;> rfl) ⟨?_, rfl⟩))
  rfl
end Go.Proofs.Ytkkijdlgmlffoaa
