/- Types: counting what is unknown, on shadows. -/
import Derived.Test.YtkkijdlgmlffoaaTF4
namespace Go.Proofs.Ytkkijdlgmlffoaa
open Go.RowKit Go.Proofs.Sh Go.Proofs.Grad
set_option maxRecDepth 100000
set_option maxHeartbeats 4000000
theorem counts_take_kid {l : List Ty} {k : Nat} (h : k < l.length) : Ty.counts (l.take (k + 1)) = Ty.counts (l.take k) + (kid l k).count := by
  rw [kid_eq h]; exact Ty.counts_take h
theorem iCount (n : Nat) (hn : n ≤ 4398046511104) : ∀ t : Ty, t.size < n → AFn Try.prog 53 [.agg (tyC t)] (.one (.sc (.int .i64 (t.count : Nat)))) := by
  induction n with
  | zero => intro t h; omega
  | succ n ih =>
    intro t h
    have hl : t.kids.length < 4398046511104 := by have := Ty.length_le_sizes t.kids; cases t; simp only [Ty.size, Ty.kids] at *; omega
    have hcs : Ty.counts t.kids < 4398046511104 := by have := Ty.counts_le t.kids; cases t; simp only [Ty.size, Ty.kids] at *; omega
    have ht : t.count = if t.kind == 1 then 1 else Ty.counts t.kids := by cases t; simp [Ty.count]; rfl
    refine fn_in ?_; refine acl_in Try.func53 rfl isfn_53 (Nat.le_of_ble_eq_true rfl) (fun R hR => ?_); rw [Try.results53] at hR; refine wg_run ?_; (simp only [Try.f53, go_sem])
    repeat' (first | ((first | refine wd_split _ (fun hb => ?_) (fun hb => ?_) | refine wd_nwant _ (fun hb => ?_) (fun hb => ?_) | refine wm_nwant _ (fun hb => ?_) (fun hb => ?_) | refine wd_want _ (fun hb => ?_) (fun hb => ?_) | refine wm_want _ (fun hb => ?_) (fun hb => ?_)) <;> (simp only [go_sem, hb])) | (refine wm_done ?_; (simp only [go_sem])) | (refine wg_run ?_; (simp only [go_sem])))
    · (refine hR _ (ret_at [] (by (simp only [go_sem]) <;> rfl) (by (simp only [go_sem]) <;> rfl) ⟨?_, rfl⟩))
      simp [ht, hb]
    · rw [hb] at ht
      simp only [Bool.false_eq_true, if_false] at ht
      refine wd_for [1, 3, 10, 11, 12] (fun k => [.one (.ptr 2 0 0 0), .one (.sc (.int .i64 (Ty.counts (t.kids.take k) : Nat))), .one (.sl (tyR t.kids)), .one (.sc (.int .i64 t.kids.length)), .one (.sc (.int .i64 (k : Nat)))]) (fun k => [⟨2, 29, .mut, [tyC t]⟩])
        (fun k => k ≤ t.kids.length) (fun k => t.kids.length - k) 0 (Nat.zero_le _) (head_at [0] (by (simp only [go_sem]) <;> rfl) (by (simp only [go_sem]) <;> rfl) ⟨rfl, rfl⟩) ?_
      rintro k hk G hG
      refine wg_run ?_
      (simp only [go_sem])
      (first | refine wd_split _ (fun hb => ?_) (fun hb => ?_) | refine wd_nwant _ (fun hb => ?_) (fun hb => ?_) | refine wm_nwant _ (fun hb => ?_) (fun hb => ?_) | refine wd_want _ (fun hb => ?_) (fun hb => ?_) | refine wm_want _ (fun hb => ?_) (fun hb => ?_)) <;> (simp only [go_sem, hb])
      · have hk1 : k < t.kids.length := by have := of_decide_eq_true hb; omega
        have hw1 := wrap_succ hk1 (by omega)
        have hle := Ty.counts_take_le t.kids (k + 1)
        rw [counts_take_kid hk1] at hle
        have hw2 : IntKind.i64.wrap ((Ty.counts (t.kids.take k) : Int) + ((kid t.kids k).count : Int)) = ((Ty.counts (t.kids.take (k + 1)) : Nat) : Int) := by
          rw [counts_take_kid hk1, IntWalk.i64_in _ (by omega)]; omega
        (first | refine wd_fn (by (simp only [go_sem]) <;> rfl) (ih (by omega) _ (by have := kid_lt hk1; omega)) ?_ | refine wm_fn (by (simp only [go_sem]) <;> rfl) (ih (by omega) _ (by have := kid_lt hk1; omega)) (by (simp only [go_sem]) <;> rfl) (by (simp only [go_sem]) <;> rfl) ?_); (simp only [go_sem])
        repeat' (first | ((first | refine wd_split _ (fun hb => ?_) (fun hb => ?_) | refine wd_nwant _ (fun hb => ?_) (fun hb => ?_) | refine wm_nwant _ (fun hb => ?_) (fun hb => ?_) | refine wd_want _ (fun hb => ?_) (fun hb => ?_) | refine wm_want _ (fun hb => ?_) (fun hb => ?_)) <;> (simp only [go_sem, hb, hw1, hw2])) | (refine wm_done ?_; (simp only [go_sem, hw1, hw2])) | (refine wg_run ?_; (simp only [go_sem, hw1, hw2])) | (simp only [go_sem, hw1, hw2]))
        exact hG (k + 1) _ _ (by omega) (by omega) (head_at [0] (by (simp only [go_sem]) <;> rfl) (by (simp only [go_sem]) <;> rfl) ⟨rfl, rfl⟩)
      · have hk1 : t.kids.take k = t.kids := List.take_of_length_le (by have := of_decide_eq_false hb; omega)
        (refine hR _ (ret_at [] (by (simp only [go_sem]) <;> rfl) (by (simp only [go_sem]) <;> rfl) ⟨?_, rfl⟩))
        rw [hk1, ht]
theorem iStatic (t : Ty) : AFn Try.prog 26 [.agg (tyC t)] (.one (.sc (.bool (t.valid && decide (t.count = 0))))) := by
  have va := iValid t
  cases ha : t.valid
  · rw [ha] at va
    refine fn_in ?_; refine acl_in Try.func26 rfl isfn_26 (Nat.le_of_ble_eq_true rfl) (fun R hR => ?_); rw [Try.results26] at hR; refine wg_run ?_; (simp only [Try.f26, go_sem])
    repeat' (first | (first | ((first | refine wd_split _ (fun hb => ?_) (fun hb => ?_) | refine wd_nwant _ (fun hb => ?_) (fun hb => ?_) | refine wm_nwant _ (fun hb => ?_) (fun hb => ?_) | refine wd_want _ (fun hb => ?_) (fun hb => ?_) | refine wm_want _ (fun hb => ?_) (fun hb => ?_)) <;> (simp only [go_sem, hb])) | (refine wm_done ?_; (simp only [go_sem])) | (refine wg_run ?_; (simp only [go_sem]))) | (first | refine wd_fn (by (simp only [go_sem]) <;> rfl) (va) ?_ | refine wm_fn (by (simp only [go_sem]) <;> rfl) (va) (by (simp only [go_sem]) <;> rfl) (by (simp only [go_sem]) <;> rfl) ?_); (simp only [go_sem]))
    (refine hR _ (ret_at [] (by (simp only [go_sem]) <;> rfl) (by (simp only [go_sem]) <;> rfl) ⟨rfl, rfl⟩))
  · rw [ha] at va
    have hc := iCount _ (Nat.le_refl _) t (by have := Ty.valid_16 ha; omega)
    refine fn_in ?_; refine acl_in Try.func26 rfl isfn_26 (Nat.le_of_ble_eq_true rfl) (fun R hR => ?_); rw [Try.results26] at hR; refine wg_run ?_; (simp only [Try.f26, go_sem])
    repeat' (first | (first | ((first | refine wd_split _ (fun hb => ?_) (fun hb => ?_) | refine wd_nwant _ (fun hb => ?_) (fun hb => ?_) | refine wm_nwant _ (fun hb => ?_) (fun hb => ?_) | refine wd_want _ (fun hb => ?_) (fun hb => ?_) | refine wm_want _ (fun hb => ?_) (fun hb => ?_)) <;> (simp only [go_sem, hb])) | (refine wm_done ?_; (simp only [go_sem])) | (refine wg_run ?_; (simp only [go_sem]))) | (first | refine wd_fn (by (simp only [go_sem]) <;> rfl) (va) ?_ | refine wm_fn (by (simp only [go_sem]) <;> rfl) (va) (by (simp only [go_sem]) <;> rfl) (by (simp only [go_sem]) <;> rfl) ?_); (simp only [go_sem]) | (first | refine wd_fn (by (simp only [go_sem]) <;> rfl) (hc) ?_ | refine wm_fn (by (simp only [go_sem]) <;> rfl) (hc) (by (simp only [go_sem]) <;> rfl) (by (simp only [go_sem]) <;> rfl) ?_); (simp only [go_sem]))
    (refine hR _ (ret_at [] (by (simp only [go_sem]) <;> rfl) (by (simp only [go_sem]) <;> rfl) ⟨?_, rfl⟩))
    have : ((t.count : Int) == 0) = decide (t.count = 0) := by rw [Bool.eq_iff_iff]; simp
    rw [this, Bool.true_and]
end Go.Proofs.Ytkkijdlgmlffoaa
