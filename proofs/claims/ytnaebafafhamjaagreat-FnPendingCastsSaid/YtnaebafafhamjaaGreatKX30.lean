/- Texts of the proof, one behind another. -/
import Derived.Test.YtnaebafafhamjaaGreatKX14
import Derived.Test.YtnaebafafhamjaaGreatKX28
set_option linter.unusedSimpArgs false
set_option linter.unusedVariables false
/- Casts that are pending, in the program and in the reference. On shadows. -/
namespace Go.Proofs.YtnaebafafhamjaaGreat
open Go.RowKit Go.Proofs.Sh Go.Proofs.Grad
set_option maxRecDepth 100000
set_option maxHeartbeats 8000000
theorem mxn (a b : Nat) : max (a : Int) (b : Int) = ((max a b : Nat) : Int) := by omega
theorem mx0 (b : Nat) : max (0 : Int) (b : Int) = (b : Int) := by omega
theorem iPending (e : E) : ∀ k : Nat, k + e.nodes < 100000 → AFn Tryz.prog 34 [.agg (teC e.tm), .one (.sc (.int .i64 (k : Nat)))] (.one (.sc (.int .i64 (e.pend k : Nat)))) := by
  induction e with
  | var _ | num _ | tru | fls =>
    intro k hk
    simp only [E.pend]
    simp only [E.tm, nd]
    refine fn_in ?_; refine acl_in Tryz.func34 rfl isfn_34 (Nat.le_of_ble_eq_true rfl) (fun R hR => ?_); rw [Tryz.results34] at hR; refine wg_run ?_; (simp only [Tryz.f34, go_sem])
    repeat' (first | (first | (simp only [go_sem, int_bne]) | (((first | apply sp1 | apply sp2 | apply sp3 | apply sp4 | apply sp5 | apply sp6 | apply sp7) <;> intro hb) <;> (simp only [go_sem, hb, int_bne])) | ((first | apply wm_done | apply wt_done | apply wg_run | refine fk ?_ ?_) <;> (simp only [go_sem, int_bne]))) | (first | (refine wl_next (wg_run ?_); (simp only [go_sem])) | refine wd_rounds 6 ?_) | fail)
    all_goals (refine hR _ ?_; refine rat [] (hK := ⟨rfl, rfl⟩))
  | lam _ _ a ih | fst a ih | snd a ih | asc _ a ih =>
    intro k hk
    simp only [E.nodes] at hk
    have h1 := ih 0 (by omega)
    simp only [Int.natCast_zero, Int.cast_ofNat_Int] at h1
    simp only [E.pend]
    simp only [E.tm, nd]
    refine fn_in ?_; refine acl_in Tryz.func34 rfl isfn_34 (Nat.le_of_ble_eq_true rfl) (fun R hR => ?_); rw [Tryz.results34] at hR; refine wg_run ?_; (simp only [Tryz.f34, go_sem, mx0])
    repeat' (first | (first | (simp only [go_sem, int_bne, mx0]) | (((first | apply sp1 | apply sp2 | apply sp3 | apply sp4 | apply sp5 | apply sp6 | apply sp7) <;> intro hb) <;> (simp only [go_sem, hb, int_bne, mx0])) | ((first | apply wm_done | apply wt_done | apply wg_run | refine fk ?_ ?_) <;> (simp only [go_sem, int_bne, mx0]))) | (first | (refine wl_next (wg_run ?_); (simp only [go_sem])) | refine wd_rounds 6 ?_) | (first | refine cdq ?_ (hc := h1) | refine cmq ?_ (hc := h1) | refine ctq ?_ (hc := h1)); (simp only [go_sem]) | fail)
    (refine hR _ ?_; refine rat [] (hK := ⟨?_, rfl⟩))
    simp only [mx0]
  | app a b iha ihb | add a b iha ihb | less a b iha ihb | pair a b iha ihb =>
    intro k hk
    simp only [E.nodes] at hk
    have h1 := iha 0 (by omega)
    have h2 := ihb 0 (by omega)
    simp only [Int.natCast_zero, Int.cast_ofNat_Int] at h1 h2
    simp only [E.pend]
    simp only [E.tm, nd]
    refine fn_in ?_; refine acl_in Tryz.func34 rfl isfn_34 (Nat.le_of_ble_eq_true rfl) (fun R hR => ?_); rw [Tryz.results34] at hR; refine wg_run ?_; (simp only [Tryz.f34, go_sem, mx0, mxn])
    repeat' (first | (first | (simp only [go_sem, int_bne, mx0, mxn]) | (((first | apply sp1 | apply sp2 | apply sp3 | apply sp4 | apply sp5 | apply sp6 | apply sp7) <;> intro hb) <;> (simp only [go_sem, hb, int_bne, mx0, mxn])) | ((first | apply wm_done | apply wt_done | apply wg_run | refine fk ?_ ?_) <;> (simp only [go_sem, int_bne, mx0, mxn]))) | (first | (refine wl_next (wg_run ?_); (simp only [go_sem])) | refine wd_rounds 6 ?_) | (first | refine cdq ?_ (hc := h1) | refine cmq ?_ (hc := h1) | refine ctq ?_ (hc := h1)); (simp only [go_sem]) | (first | refine cdq ?_ (hc := h2) | refine cmq ?_ (hc := h2) | refine ctq ?_ (hc := h2)); (simp only [go_sem]) | fail)
    (refine hR _ ?_; refine rat [] (hK := ⟨?_, rfl⟩))
    simp only [mx0, mxn]
  | ite a b c iha ihb ihc =>
    intro k hk
    simp only [E.nodes] at hk
    have h1 := iha 0 (by omega)
    have h2 := ihb 0 (by omega)
    have h3 := ihc 0 (by omega)
    simp only [Int.natCast_zero, Int.cast_ofNat_Int] at h1 h2 h3
    simp only [E.pend]
    simp only [E.tm, nd]
    refine fn_in ?_; refine acl_in Tryz.func34 rfl isfn_34 (Nat.le_of_ble_eq_true rfl) (fun R hR => ?_); rw [Tryz.results34] at hR; refine wg_run ?_; (simp only [Tryz.f34, go_sem, mx0, mxn])
    repeat' (first | (first | (simp only [go_sem, int_bne, mx0, mxn]) | (((first | apply sp1 | apply sp2 | apply sp3 | apply sp4 | apply sp5 | apply sp6 | apply sp7) <;> intro hb) <;> (simp only [go_sem, hb, int_bne, mx0, mxn])) | ((first | apply wm_done | apply wt_done | apply wg_run | refine fk ?_ ?_) <;> (simp only [go_sem, int_bne, mx0, mxn]))) | (first | (refine wl_next (wg_run ?_); (simp only [go_sem])) | refine wd_rounds 6 ?_) | (first | refine cdq ?_ (hc := h1) | refine cmq ?_ (hc := h1) | refine ctq ?_ (hc := h1)); (simp only [go_sem]) | (first | refine cdq ?_ (hc := h2) | refine cmq ?_ (hc := h2) | refine ctq ?_ (hc := h2)); (simp only [go_sem]) | (first | refine cdq ?_ (hc := h3) | refine cmq ?_ (hc := h3) | refine ctq ?_ (hc := h3)); (simp only [go_sem]) | fail)
    (refine hR _ ?_; refine rat [] (hK := ⟨?_, rfl⟩))
    simp only [mx0, mxn]
  | cast s t l a ih =>
    intro k hk
    simp only [E.nodes] at hk
    have h1 := ih (k + 1) (by omega)
    have hw1 := wrap_succ (k := k) (n := 100000) (by omega) (by omega)
    simp only [E.pend]
    simp only [E.tm, nd]
    refine fn_in ?_; refine acl_in Tryz.func34 rfl isfn_34 (Nat.le_of_ble_eq_true rfl) (fun R hR => ?_); rw [Tryz.results34] at hR; refine wg_run ?_; (simp only [Tryz.f34, go_sem, hw1, mxn])
    repeat' (first | (first | (simp only [go_sem, int_bne, hw1, mxn]) | (((first | apply sp1 | apply sp2 | apply sp3 | apply sp4 | apply sp5 | apply sp6 | apply sp7) <;> intro hb) <;> (simp only [go_sem, hb, int_bne, hw1, mxn])) | ((first | apply wm_done | apply wt_done | apply wg_run | refine fk ?_ ?_) <;> (simp only [go_sem, int_bne, hw1, mxn]))) | (first | (refine wl_next (wg_run ?_); (simp only [go_sem])) | refine wd_rounds 6 ?_) | (first | refine cdq ?_ (hc := h1) | refine cmq ?_ (hc := h1) | refine ctq ?_ (hc := h1)); (simp only [go_sem]) | fail)
    (refine hR _ ?_; refine rat [] (hK := ⟨?_, rfl⟩))
    simp only [mxn]
theorem sNested (e : E) : e.nodes < 100000 → AFn Tryz.prog 36 [.agg (teC e.tm)] (.one (.sc (.int .i64 (e.nest : Nat)))) := by
  induction e with
  | var _ | num _ | tru | fls =>
    intro hk
    simp only [E.nest]
    simp only [E.tm, nd]
    refine fn_in ?_; refine acl_in Tryz.func36 rfl isfn_36 (Nat.le_of_ble_eq_true rfl) (fun R hR => ?_); rw [Tryz.results36] at hR; refine wg_run ?_; (simp only [Tryz.f36, go_sem])
    repeat' (first | (first | (simp only [go_sem, int_bne]) | (((first | apply sp1 | apply sp2 | apply sp3 | apply sp4 | apply sp5 | apply sp6 | apply sp7) <;> intro hb) <;> (simp only [go_sem, hb, int_bne])) | ((first | apply wm_done | apply wt_done | apply wg_run | refine fk ?_ ?_) <;> (simp only [go_sem, int_bne]))) | (first | (refine wl_next (wg_run ?_); (simp only [go_sem])) | refine wd_rounds 6 ?_) | fail)
    all_goals (refine hR _ ?_; refine rat [] (hK := ⟨rfl, rfl⟩))
  | lam _ _ a ih | fst a ih | snd a ih | asc _ a ih =>
    intro hk
    simp only [E.nodes] at hk
    have h1 := ih (by omega)
    simp only [E.nest]
    simp only [E.tm, nd]
    refine fn_in ?_; refine acl_in Tryz.func36 rfl isfn_36 (Nat.le_of_ble_eq_true rfl) (fun R hR => ?_); rw [Tryz.results36] at hR; refine wg_run ?_; (simp only [Tryz.f36, go_sem])
    repeat' (first | (first | (simp only [go_sem, int_bne]) | (((first | apply sp1 | apply sp2 | apply sp3 | apply sp4 | apply sp5 | apply sp6 | apply sp7) <;> intro hb) <;> (simp only [go_sem, hb, int_bne])) | ((first | apply wm_done | apply wt_done | apply wg_run | refine fk ?_ ?_) <;> (simp only [go_sem, int_bne]))) | (first | (refine wl_next (wg_run ?_); (simp only [go_sem])) | refine wd_rounds 6 ?_) | (first | refine cdq ?_ (hc := h1) | refine cmq ?_ (hc := h1) | refine ctq ?_ (hc := h1)); (simp only [go_sem]) | fail)
    all_goals (refine hR _ ?_; refine rat [] (hK := ⟨?_, rfl⟩))
    all_goals simp_all <;> omega
  | app a b iha ihb | add a b iha ihb | less a b iha ihb | pair a b iha ihb =>
    intro hk
    simp only [E.nodes] at hk
    have h1 := iha (by omega)
    have h2 := ihb (by omega)
    simp only [E.nest]
    simp only [E.tm, nd]
    refine fn_in ?_; refine acl_in Tryz.func36 rfl isfn_36 (Nat.le_of_ble_eq_true rfl) (fun R hR => ?_); rw [Tryz.results36] at hR; refine wg_run ?_; (simp only [Tryz.f36, go_sem])
    repeat' (first | (first | (simp only [go_sem, int_bne]) | (((first | apply sp1 | apply sp2 | apply sp3 | apply sp4 | apply sp5 | apply sp6 | apply sp7) <;> intro hb) <;> (simp only [go_sem, hb, int_bne])) | ((first | apply wm_done | apply wt_done | apply wg_run | refine fk ?_ ?_) <;> (simp only [go_sem, int_bne]))) | (first | (refine wl_next (wg_run ?_); (simp only [go_sem])) | refine wd_rounds 6 ?_) | (first | refine cdq ?_ (hc := h1) | refine cmq ?_ (hc := h1) | refine ctq ?_ (hc := h1)); (simp only [go_sem]) | (first | refine cdq ?_ (hc := h2) | refine cmq ?_ (hc := h2) | refine ctq ?_ (hc := h2)); (simp only [go_sem]) | fail)
    all_goals (refine hR _ ?_; refine rat [] (hK := ⟨?_, rfl⟩))
    all_goals simp_all <;> omega
  | ite a b c iha ihb ihc =>
    intro hk
    simp only [E.nodes] at hk
    have h1 := iha (by omega)
    have h2 := ihb (by omega)
    have h3 := ihc (by omega)
    simp only [E.nest]
    simp only [E.tm, nd]
    refine fn_in ?_; refine acl_in Tryz.func36 rfl isfn_36 (Nat.le_of_ble_eq_true rfl) (fun R hR => ?_); rw [Tryz.results36] at hR; refine wg_run ?_; (simp only [Tryz.f36, go_sem])
    repeat' (first | (first | (simp only [go_sem, int_bne]) | (((first | apply sp1 | apply sp2 | apply sp3 | apply sp4 | apply sp5 | apply sp6 | apply sp7) <;> intro hb) <;> (simp only [go_sem, hb, int_bne])) | ((first | apply wm_done | apply wt_done | apply wg_run | refine fk ?_ ?_) <;> (simp only [go_sem, int_bne]))) | (first | (refine wl_next (wg_run ?_); (simp only [go_sem])) | refine wd_rounds 6 ?_) | (first | refine cdq ?_ (hc := h1) | refine cmq ?_ (hc := h1) | refine ctq ?_ (hc := h1)); (simp only [go_sem]) | (first | refine cdq ?_ (hc := h2) | refine cmq ?_ (hc := h2) | refine ctq ?_ (hc := h2)); (simp only [go_sem]) | (first | refine cdq ?_ (hc := h3) | refine cmq ?_ (hc := h3) | refine ctq ?_ (hc := h3)); (simp only [go_sem]) | fail)
    all_goals (refine hR _ ?_; refine rat [] (hK := ⟨?_, rfl⟩))
    all_goals simp_all <;> omega
  | cast s t l a ih =>
    intro hk
    simp only [E.nodes] at hk
    have h1 := ih (by omega)
    have hb1 := E.nest_nodes a
    simp only [E.nest]
    refine fn_in ?_; refine acl_in Tryz.func36 rfl isfn_36 (Nat.le_of_ble_eq_true rfl) (fun R hR => ?_); rw [Tryz.results36] at hR; refine wg_run ?_; (simp only [Tryz.f36, go_sem])
    repeat' (first | (first | (simp only [go_sem, int_bne]) | (((first | apply sp1 | apply sp2 | apply sp3 | apply sp4 | apply sp5 | apply sp6 | apply sp7) <;> intro hb) <;> (simp only [go_sem, hb, int_bne])) | ((first | apply wm_done | apply wt_done | apply wg_run | refine fk ?_ ?_) <;> (simp only [go_sem, int_bne]))) | fail)
    refine wd_for [1, 3, 4, 5] (fun (s0 : Nat × E) => [.one (.ptr 9 0 0 0), .one (.sc (.int .i64 0)), .one (.sc (.int .i64 (s0.1 : Nat))), .one (.ptr 9 1 0 0)])
      (fun s0 => [⟨9, 28, .mut, [teC (E.cast s t l a).tm]⟩, ⟨9, 28, .mut, [teC s0.2.tm]⟩])
      (fun s0 => s0.1 + s0.2.lead = a.lead + 1) (fun s0 => s0.2.nodes) (0, E.cast s t l a) (by simp [E.lead]) (hat [0, 1] (hI := ⟨rfl, rfl⟩)) ?_
    rintro ⟨n, x⟩ hI G hG
    simp only [] at hI
    refine wg_run ?_
    cases x with
    | cast s' t' l' y =>
      simp only [E.lead] at hI
      have hw1 := wrap_succ (k := n) (n := 1000000) (by omega) (by omega)
      simp only [E.tm] at hG ⊢
      (simp only [go_sem])
      repeat' (first | (first | (simp only [go_sem, int_bne, hw1]) | (((first | apply sp1 | apply sp2 | apply sp3 | apply sp4 | apply sp5 | apply sp6 | apply sp7) <;> intro hb) <;> (simp only [go_sem, hb, int_bne, hw1])) | ((first | apply wm_done | apply wt_done | apply wg_run | refine fk ?_ ?_) <;> (simp only [go_sem, int_bne, hw1]))) | fail)
      exact hG (n + 1, y) _ _ (by show n + 1 + y.lead = _; omega) (by show y.nodes < (E.cast s' t' l' y).nodes; simp only [E.nodes]; omega) (hat [0, 2] (hI := ⟨rfl, rfl⟩))
    | _ =>
      simp only [E.lead] at hI
      obtain rfl : n = a.lead + 1 := by omega
      simp only [E.tm, nd] at h1 ⊢
      (simp only [go_sem])
      repeat' (first | (first | (simp only [go_sem, int_bne]) | (((first | apply sp1 | apply sp2 | apply sp3 | apply sp4 | apply sp5 | apply sp6 | apply sp7) <;> intro hb) <;> (simp only [go_sem, hb, int_bne])) | ((first | apply wm_done | apply wt_done | apply wg_run | refine fk ?_ ?_) <;> (simp only [go_sem, int_bne]))) | (first | (refine wl_next (wg_run ?_); (simp only [go_sem])) | refine wd_rounds 6 ?_) | (first | refine cdq ?_ (hc := h1) | refine cmq ?_ (hc := h1) | refine ctq ?_ (hc := h1)); (simp only [go_sem]) | fail)
      all_goals (refine hR _ ?_; refine rat [] (hK := ⟨?_, rfl⟩))
      all_goals simp_all <;> omega
theorem iReachP (e : E) (hk : e.nodes < 50000) (b : Nat) : ACl Tryz.prog 33 [.agg (teC e.tm), .one (.ptr 1 0 0 0)] [⟨1, 3, .mut, [[.sc (.int .i64 (b : Nat))]]⟩] (fun r H' => r = .tup [] ∧ H' = [⟨1, 3, .mut, [[.sc (.int .i64 ((max b e.nest : Nat) : Int))]]⟩]) := by
  have h1 := iPending e 0 (by omega)
  rw [E.pend_nest] at h1
  simp only [Int.natCast_zero, Int.cast_ofNat_Int] at h1
  refine acl_in Tryz.func33 rfl isfn_33 (Nat.le_of_ble_eq_true rfl) (fun R hR => ?_); rw [Tryz.results33] at hR; refine wg_run ?_; (simp only [Tryz.f33, go_sem])
  repeat' (first | (first | (simp only [go_sem, mxn]) | (((first | apply sp1 | apply sp2 | apply sp3 | apply sp4 | apply sp5 | apply sp6 | apply sp7) <;> intro hb) <;> (simp only [go_sem, hb, mxn])) | ((first | apply wm_done | apply wt_done | apply wg_run | refine fk ?_ ?_) <;> (simp only [go_sem, mxn]))) | ((first | refine mxq6 [] ?_ | refine mxq5 [] ?_ | refine mxq4 [] ?_ | refine mxq3 [] ?_ | refine mxq2 [] ?_ | refine mxq1 [] ?_ | refine mxq0 [] ?_ | fail); (simp only [go_sem])) | (first | refine cdq ?_ (hc := h1) | refine cmq ?_ (hc := h1) | refine ctq ?_ (hc := h1)); (simp only [go_sem]) | fail)
  refine hR _ (rat [] (hK := ⟨rfl, ?_⟩))
  simp only [mxn]
def pendB (b : Nat) : List Blk := [⟨1, 3, .mut, [[.sc (.int .i64 (b : Nat))]]⟩]
theorem iEvalPend (e : E) (h : e.okC = true) (f : Nat) (hf : f ≤ 300) : ACl Tryz.prog 32 [.agg (teC e.tm), .one (.sc (.int .i64 (f : Nat))), .one (.fn 33 [.ptr 1 0 0 0])] (pendB 0)
    (fun r H' => (∃ (t : Tm) (c l : Int) (n : Nat), r = .tup [.agg (teC t), .one (.sc (.int .i64 c)), .one (.sc (.int .i64 l)), .one (.sc (.int .i64 (n : Nat)))]) ∧ H' = pendB (e.pI f e.nest)) := by
  have nodes : ∀ x : E, x.okC = true → x.nodes < 50000 := by
    intro x hx; simp only [E.okC, Bool.and_eq_true, decide_eq_true_eq] at hx; omega
  have h0 := iReachP e (nodes e h) 0
  rw [Nat.zero_max] at h0
  unfold pendB
  simp only [Int.natCast_zero, Int.cast_ofNat_Int] at h0 ⊢
  refine acl_in Tryz.func32 rfl isfn_32 (Nat.le_of_ble_eq_true rfl) (fun R hR => ?_); rw [Tryz.results32] at hR; refine wg_run ?_; (simp only [Tryz.f32, go_sem])
  repeat' (first | (first | (((first | apply sp1 | apply sp2 | apply sp3 | apply sp4 | apply sp5 | apply sp6 | apply sp7) <;> intro hb) <;> (simp only [go_sem, hb])) | ((first | apply wm_done | apply wt_done | apply wg_run | refine fk ?_ ?_) <;> (simp only [go_sem]))) | fail)
  ((first | refine kdq [0] ?_ (hc := h0) | refine kmq [0] ?_ (hc := h0) | refine ktq [0] ?_ (hc := h0)); rintro _ _ ⟨rfl, rfl⟩ <;> (simp only [go_sem]))
  repeat' (first | (first | (((first | apply sp1 | apply sp2 | apply sp3 | apply sp4 | apply sp5 | apply sp6 | apply sp7) <;> intro hb) <;> (simp only [go_sem, hb])) | ((first | apply wm_done | apply wt_done | apply wg_run | refine fk ?_ ?_) <;> (simp only [go_sem]))) | fail)
  refine wd_for [1, 2, 3, 6, 7, 8, 9, 10] (fun (s : Nat × E × Nat) => [.one (.sc (.int .i64 (f : Nat))), .one (.fn 33 [.ptr 1 0 0 0]), .one (.ptr 9 1 0 0), .one (.ptr 9 2 0 0), .one (.sc (.int .i64 0)), .one (.sc (.int .i64 0)), .one (.sc (.int .i64 0)), .one (.sc (.int .i64 (s.1 : Nat)))])
    (fun s => [⟨1, 3, .mut, [[.sc (.int .i64 (s.2.2 : Nat))]]⟩, ⟨9, 28, .mut, [teC s.2.1.tm]⟩, ⟨9, 28, .mut, [[.sc (.int .i64 0), .sc (.string { data := { toList := [] } }), .sc (.int .i64 0), .sc (.int .i64 0), .sc (.slice none 0 0), .sc (.int .i64 0), .sc (.slice none 0 0), .sc (.int .i64 0), .sc (.slice none 0 0)]]⟩])
    (fun s => s.1 ≤ f ∧ s.2.1.okC = true ∧ s.2.1.pI (f - s.1) s.2.2 = e.pI f e.nest) (fun s => f - s.1) (0, e, e.nest) ⟨Nat.zero_le _, h, rfl⟩ (hat [1, 2] (hI := ⟨rfl, rfl⟩)) ?_
  rintro ⟨k, x, b⟩ ⟨hk, hx, hev⟩ G hG
  simp only [] at hk hx hev
  have hs := iStepCast x hx
  refine wg_run ?_
  cases hsc : x.sc with
  | took y =>
    rw [hsc] at hs
    simp only [scT, SC.tm, SC.code, SC.lab] at hs
    by_cases hkf : k = f
    · have hke : (((k : Nat) : Int) == (f : Int)) = true := by simp [hkf]
      rw [hkf, Nat.sub_self] at hev
      simp only [E.pI] at hev
      (simp only [go_sem, hke])
      repeat' (first | (first | (simp only [go_sem, int_bne, hke]) | (((first | apply sp1 | apply sp2 | apply sp3 | apply sp4 | apply sp5 | apply sp6 | apply sp7) <;> intro hb) <;> (simp only [go_sem, hb, int_bne, hke])) | ((first | apply wm_done | apply wt_done | apply wg_run | refine fk ?_ ?_) <;> (simp only [go_sem, int_bne, hke]))) | (first | refine cdq ?_ (hc := hs) | refine cmq ?_ (hc := hs) | refine ctq ?_ (hc := hs)); (simp only [go_sem]) | fail)
      rw [← hev] at hR
      exact hR _ (rat [] (hK := ⟨⟨_, _, _, _, rfl⟩, rfl⟩))
    · have hke : (((k : Nat) : Int) == (f : Int)) = false := by simp; omega
      have hw1 := wrap_succ (k := k) (n := f) (by omega) (by omega)
      obtain ⟨m, hm⟩ : ∃ m, f - k = m + 1 := ⟨f - k - 1, by omega⟩
      rw [hm, E.pI_took hsc] at hev
      have hm2 : f - (k + 1) = m := by omega
      have hy := iReachP y (nodes y (E.sc_ok hsc)) b
      (simp only [go_sem, hke])
      repeat' (first | (first | (simp only [go_sem, int_bne, hke, hw1]) | (((first | apply sp1 | apply sp2 | apply sp3 | apply sp4 | apply sp5 | apply sp6 | apply sp7) <;> intro hb) <;> (simp only [go_sem, hb, int_bne, hke, hw1])) | ((first | apply wm_done | apply wt_done | apply wg_run | refine fk ?_ ?_) <;> (simp only [go_sem, int_bne, hke, hw1]))) | (first | refine cdq ?_ (hc := hs) | refine cmq ?_ (hc := hs) | refine ctq ?_ (hc := hs)); (simp only [go_sem]) | ((first | refine kdq [0] ?_ (hc := hy) | refine kmq [0] ?_ (hc := hy) | refine ktq [0] ?_ (hc := hy)); rintro _ _ ⟨rfl, rfl⟩ <;> (simp only [go_sem])) | fail)
      exact hG (k + 1, y, max b y.nest) _ _ ⟨by show k + 1 ≤ f; omega, E.sc_ok hsc, by show y.pI (f - (k + 1)) _ = _; rw [hm2]; exact hev⟩ (by show f - (k + 1) < f - k; omega) (hat [1, 2] (hI := ⟨rfl, rfl⟩))
  | _ =>
    rw [E.pI_stop (fun y => by rw [hsc]; simp)] at hev
    rw [hsc] at hs
    simp only [scT, SC.tm, SC.code, SC.lab] at hs
    (try simp only [tm0, noTy] at hs)
    (simp only [go_sem])
    repeat' (first | (first | (simp only [go_sem, int_bne]) | (((first | apply sp1 | apply sp2 | apply sp3 | apply sp4 | apply sp5 | apply sp6 | apply sp7) <;> intro hb) <;> (simp only [go_sem, hb, int_bne])) | ((first | apply wm_done | apply wt_done | apply wg_run | refine fk ?_ ?_) <;> (simp only [go_sem, int_bne]))) | (first | refine cdq ?_ (hc := hs) | refine cmq ?_ (hc := hs) | refine ctq ?_ (hc := hs)); (simp only [go_sem]) | fail)
    rw [← hev] at hR
    exact hR _ (rat [] (hK := ⟨⟨_, _, _, k, rfl⟩, rfl⟩))
theorem iPendingCasts (t : Tm) (f : Int) : AFn Tryz.prog 8 [.agg (teC t), .one (.sc (.int .i64 f))] (.one (.sc (.int .i64 (Tm.pendV t f : Nat)))) := by
  have hf := iIsFuel f
  have hv := iCastV t
  cases hc : t.castV
  · rw [hc] at hv
    rw [Tm.pendV_bad hc]
    refine fn_in ?_; refine acl_in Tryz.func8 rfl isfn_8 (Nat.le_of_ble_eq_true rfl) (fun R hR => ?_); rw [Tryz.results8] at hR; refine wg_run ?_; (simp only [Tryz.f8, go_sem])
    repeat' (first | (first | (((first | apply sp1 | apply sp2 | apply sp3 | apply sp4 | apply sp5 | apply sp6 | apply sp7) <;> intro hb) <;> (simp only [go_sem, hb])) | ((first | apply wm_done | apply wt_done | apply wg_run | refine fk ?_ ?_) <;> (simp only [go_sem]))) | (first | refine cdq ?_ (hc := hv) | refine cmq ?_ (hc := hv) | refine ctq ?_ (hc := hv)); (simp only [go_sem]) | (first | refine cdq ?_ (hc := hf) | refine cmq ?_ (hc := hf) | refine ctq ?_ (hc := hf)); (simp only [go_sem]) | fail)
    all_goals (refine hR _ ?_; refine rat [] (hK := ⟨rfl, rfl⟩))
  · rw [hc] at hv
    cases hb : (decide (0 ≤ f) && decide (f ≤ 300))
    · rw [hb] at hf
      rw [Tm.pendV_off t hb]
      refine fn_in ?_; refine acl_in Tryz.func8 rfl isfn_8 (Nat.le_of_ble_eq_true rfl) (fun R hR => ?_); rw [Tryz.results8] at hR; refine wg_run ?_; (simp only [Tryz.f8, go_sem])
      repeat' (first | (first | (((first | apply sp1 | apply sp2 | apply sp3 | apply sp4 | apply sp5 | apply sp6 | apply sp7) <;> intro hb) <;> (simp only [go_sem, hb])) | ((first | apply wm_done | apply wt_done | apply wg_run | refine fk ?_ ?_) <;> (simp only [go_sem]))) | (first | refine cdq ?_ (hc := hv) | refine cmq ?_ (hc := hv) | refine ctq ?_ (hc := hv)); (simp only [go_sem]) | (first | refine cdq ?_ (hc := hf) | refine cmq ?_ (hc := hf) | refine ctq ?_ (hc := hf)); (simp only [go_sem]) | fail)
      all_goals (refine hR _ ?_; refine rat [] (hK := ⟨rfl, rfl⟩))
    · rw [hb] at hf
      simp only [Bool.and_eq_true, decide_eq_true_eq] at hb
      obtain ⟨e, rfl, ho⟩ := Tm.castV_E hc
      obtain ⟨n, rfl⟩ := Int.eq_ofNat_of_zero_le hb.1
      have he := iEvalPend e ho n (by omega)
      unfold pendB at he
      simp only [Int.natCast_zero, Int.cast_ofNat_Int] at he
      rw [Tm.pendV_E ho n (by omega)]
      refine fn_in ?_; refine acl_in Tryz.func8 rfl isfn_8 (Nat.le_of_ble_eq_true rfl) (fun R hR => ?_); rw [Tryz.results8] at hR; refine wg_run ?_; (simp only [Tryz.f8, go_sem])
      repeat' (first | (first | (((first | apply sp1 | apply sp2 | apply sp3 | apply sp4 | apply sp5 | apply sp6 | apply sp7) <;> intro hb) <;> (simp only [go_sem, hb])) | ((first | apply wm_done | apply wt_done | apply wg_run | refine fk ?_ ?_) <;> (simp only [go_sem]))) | (first | refine cdq ?_ (hc := hv) | refine cmq ?_ (hc := hv) | refine ctq ?_ (hc := hv)); (simp only [go_sem]) | (first | refine cdq ?_ (hc := hf) | refine cmq ?_ (hc := hf) | refine ctq ?_ (hc := hf)); (simp only [go_sem]) | ((first | refine kdq [1] ?_ (hc := he) | refine kmq [1] ?_ (hc := he) | refine ktq [1] ?_ (hc := he)); rintro _ _ ⟨⟨t', c', l', n', rfl⟩, rfl⟩ <;> (simp only [go_sem])) | fail)
      all_goals (refine hR _ ?_; refine rat [] (hK := ⟨rfl, rfl⟩))
theorem sPendingCasts (t : Tm) (hz : t.size < 4611686018427387904) (f : Int) : AFn Tryz.prog 9 [.agg (teC t), .one (.sc (.int .i64 f))] (.one (.sc (.int .i64 (Tm.pendV t f : Nat)))) := by
  have hv := sCastV t hz
  have nodes : ∀ x : E, x.okC = true → x.nodes < 50000 := by
    intro x hx; simp only [E.okC, Bool.and_eq_true, decide_eq_true_eq] at hx; omega
  cases hc : t.castV
  · rw [hc] at hv
    rw [Tm.pendV_bad hc]
    refine fn_in ?_; refine acl_in Tryz.func9 rfl isfn_9 (Nat.le_of_ble_eq_true rfl) (fun R hR => ?_); rw [Tryz.results9] at hR; refine wg_run ?_; (simp only [Tryz.f9, go_sem])
    repeat' (first | (first | (((first | apply sp1 | apply sp2 | apply sp3 | apply sp4 | apply sp5 | apply sp6 | apply sp7) <;> intro hb) <;> (simp only [go_sem, hb])) | ((first | apply wm_done | apply wt_done | apply wg_run | refine fk ?_ ?_) <;> (simp only [go_sem]))) | (first | refine cdq ?_ (hc := hv) | refine cmq ?_ (hc := hv) | refine ctq ?_ (hc := hv)); (simp only [go_sem]) | fail)
    all_goals (refine hR _ ?_; refine rat [] (hK := ⟨rfl, rfl⟩))
  · rw [hc] at hv
    cases hb : (decide (0 ≤ f) && decide (f ≤ 300))
    · rw [Tm.pendV_off t hb]
      by_cases h0 : f < 0
      · have d0 : decide (f < 0) = true := by simpa using h0
        refine fn_in ?_; refine acl_in Tryz.func9 rfl isfn_9 (Nat.le_of_ble_eq_true rfl) (fun R hR => ?_); rw [Tryz.results9] at hR; refine wg_run ?_; (simp only [Tryz.f9, go_sem, d0])
        repeat' (first | (first | (simp only [go_sem, d0]) | (((first | apply sp1 | apply sp2 | apply sp3 | apply sp4 | apply sp5 | apply sp6 | apply sp7) <;> intro hb) <;> (simp only [go_sem, hb, d0])) | ((first | apply wm_done | apply wt_done | apply wg_run | refine fk ?_ ?_) <;> (simp only [go_sem, d0]))) | (first | refine cdq ?_ (hc := hv) | refine cmq ?_ (hc := hv) | refine ctq ?_ (hc := hv)); (simp only [go_sem]) | fail)
        all_goals (refine hR _ ?_; refine rat [] (hK := ⟨rfl, rfl⟩))
      · have d0 : decide (f < 0) = false := by simpa using h0
        have d1 : decide (f > 300) = true := by simp at hb; simp; omega
        refine fn_in ?_; refine acl_in Tryz.func9 rfl isfn_9 (Nat.le_of_ble_eq_true rfl) (fun R hR => ?_); rw [Tryz.results9] at hR; refine wg_run ?_; (simp only [Tryz.f9, go_sem, d0, d1])
        repeat' (first | (first | (simp only [go_sem, d0, d1]) | (((first | apply sp1 | apply sp2 | apply sp3 | apply sp4 | apply sp5 | apply sp6 | apply sp7) <;> intro hb) <;> (simp only [go_sem, hb, d0, d1])) | ((first | apply wm_done | apply wt_done | apply wg_run | refine fk ?_ ?_) <;> (simp only [go_sem, d0, d1]))) | (first | refine cdq ?_ (hc := hv) | refine cmq ?_ (hc := hv) | refine ctq ?_ (hc := hv)); (simp only [go_sem]) | fail)
        all_goals (refine hR _ ?_; refine rat [] (hK := ⟨rfl, rfl⟩))
    · simp only [Bool.and_eq_true, decide_eq_true_eq] at hb
      have d0 : decide (f < 0) = false := by simp; omega
      have d1 : decide (f > 300) = false := by simp; omega
      obtain ⟨e, rfl, ho⟩ := Tm.castV_E hc
      obtain ⟨n, rfl⟩ := Int.eq_ofNat_of_zero_le hb.1
      rw [Tm.pendV_E ho n (by omega)]
      have hn0 := sNested e (by have := nodes e ho; omega)
      refine fn_in ?_; refine acl_in Tryz.func9 rfl isfn_9 (Nat.le_of_ble_eq_true rfl) (fun R hR => ?_); rw [Tryz.results9] at hR; refine wg_run ?_; (simp only [Tryz.f9, go_sem, d0, d1])
      repeat' (first | (first | (simp only [go_sem, d0, d1]) | (((first | apply sp1 | apply sp2 | apply sp3 | apply sp4 | apply sp5 | apply sp6 | apply sp7) <;> intro hb) <;> (simp only [go_sem, hb, d0, d1])) | ((first | apply wm_done | apply wt_done | apply wg_run | refine fk ?_ ?_) <;> (simp only [go_sem, d0, d1]))) | (first | refine cdq ?_ (hc := hv) | refine cmq ?_ (hc := hv) | refine ctq ?_ (hc := hv)); (simp only [go_sem]) | (first | refine cdq ?_ (hc := hn0) | refine cmq ?_ (hc := hn0) | refine ctq ?_ (hc := hn0)); (simp only [go_sem]) | fail)
      refine wd_for [1, 2, 4, 5, 6] (fun (s : Nat × E × Nat) => [.one (.sc (.int .i64 (n : Nat))), .one (.ptr 9 0 0 0), .one (.sc (.int .i64 0)), .one (.sc (.int .i64 (s.2.2 : Nat))), .one (.sc (.int .i64 (s.1 : Nat)))])
        (fun s => [⟨9, 28, .mut, [teC s.2.1.tm]⟩])
        (fun s => s.1 ≤ n ∧ s.2.1.okC = true ∧ s.2.1.pI (n - s.1) s.2.2 = e.pI n e.nest) (fun s => n - s.1) (0, e, e.nest) ⟨Nat.zero_le _, ho, rfl⟩ (hat [0] (hI := ⟨rfl, rfl⟩)) ?_
      rintro ⟨k, x, b⟩ ⟨hk, hx, hev⟩ G hG
      simp only [] at hk hx hev
      have hs := sStepCast x hx
      refine wg_run ?_
      by_cases hkf : k = n
      · have hke : decide (((k : Nat) : Int) < (n : Int)) = false := by simp [hkf]
        have hz0 : n - k = 0 := by omega
        rw [hz0] at hev
        simp only [E.pI] at hev
        (simp only [go_sem, hke])
        repeat' (first | (first | (simp only [go_sem, int_bne, hke]) | (((first | apply sp1 | apply sp2 | apply sp3 | apply sp4 | apply sp5 | apply sp6 | apply sp7) <;> intro hb) <;> (simp only [go_sem, hb, int_bne, hke])) | ((first | apply wm_done | apply wt_done | apply wg_run | refine fk ?_ ?_) <;> (simp only [go_sem, int_bne, hke]))) | fail)
        rw [← hev] at hR
        all_goals (refine hR _ ?_; refine rat [] (hK := ⟨rfl, rfl⟩))
      · have hke : decide (((k : Nat) : Int) < (n : Int)) = true := by simp; omega
        cases hsc : x.sc with
        | took y =>
          rw [hsc] at hs
          simp only [scT, SC.tm, SC.code, SC.lab] at hs
          have hw1 := wrap_succ (k := k) (n := n) (by omega) (by omega)
          obtain ⟨m, hm⟩ : ∃ m, n - k = m + 1 := ⟨n - k - 1, by omega⟩
          rw [hm, E.pI_took hsc] at hev
          have hm2 : n - (k + 1) = m := by omega
          have hy := sNested y (by have := nodes y (E.sc_ok hsc); omega)
          by_cases hby : b < y.nest
          · have d2 : decide ((y.nest : Int) > (b : Int)) = true := by simp; omega
            have hmx : max b y.nest = y.nest := by omega
            rw [hmx] at hev
            (simp only [go_sem, hke])
            repeat' (first | (first | (simp only [go_sem, int_bne, hke, hw1, d2]) | (((first | apply sp1 | apply sp2 | apply sp3 | apply sp4 | apply sp5 | apply sp6 | apply sp7) <;> intro hb) <;> (simp only [go_sem, hb, int_bne, hke, hw1, d2])) | ((first | apply wm_done | apply wt_done | apply wg_run | refine fk ?_ ?_) <;> (simp only [go_sem, int_bne, hke, hw1, d2]))) | (first | refine cdq ?_ (hc := hs) | refine cmq ?_ (hc := hs) | refine ctq ?_ (hc := hs)); (simp only [go_sem]) | (first | refine cdq ?_ (hc := hy) | refine cmq ?_ (hc := hy) | refine ctq ?_ (hc := hy)); (simp only [go_sem]) | fail)
            exact hG (k + 1, y, y.nest) _ _ ⟨by show k + 1 ≤ n; omega, E.sc_ok hsc, by show y.pI (n - (k + 1)) _ = _; rw [hm2]; exact hev⟩ (by show n - (k + 1) < n - k; omega) (hat [0] (hI := ⟨rfl, rfl⟩))
          · have d2 : decide ((y.nest : Int) > (b : Int)) = false := by simp; omega
            have hmx : max b y.nest = b := by omega
            rw [hmx] at hev
            (simp only [go_sem, hke])
            repeat' (first | (first | (simp only [go_sem, int_bne, hke, hw1, d2]) | (((first | apply sp1 | apply sp2 | apply sp3 | apply sp4 | apply sp5 | apply sp6 | apply sp7) <;> intro hb) <;> (simp only [go_sem, hb, int_bne, hke, hw1, d2])) | ((first | apply wm_done | apply wt_done | apply wg_run | refine fk ?_ ?_) <;> (simp only [go_sem, int_bne, hke, hw1, d2]))) | (first | refine cdq ?_ (hc := hs) | refine cmq ?_ (hc := hs) | refine ctq ?_ (hc := hs)); (simp only [go_sem]) | (first | refine cdq ?_ (hc := hy) | refine cmq ?_ (hc := hy) | refine ctq ?_ (hc := hy)); (simp only [go_sem]) | fail)
            exact hG (k + 1, y, b) _ _ ⟨by show k + 1 ≤ n; omega, E.sc_ok hsc, by show y.pI (n - (k + 1)) _ = _; rw [hm2]; exact hev⟩ (by show n - (k + 1) < n - k; omega) (hat [0] (hI := ⟨rfl, rfl⟩))
        | _ =>
          rw [E.pI_stop (fun y => by rw [hsc]; simp)] at hev
          rw [hsc] at hs
          simp only [scT, SC.tm, SC.code, SC.lab] at hs
          (try simp only [tm0, noTy] at hs)
          (simp only [go_sem, hke])
          repeat' (first | (first | (simp only [go_sem, int_bne, hke]) | (((first | apply sp1 | apply sp2 | apply sp3 | apply sp4 | apply sp5 | apply sp6 | apply sp7) <;> intro hb) <;> (simp only [go_sem, hb, int_bne, hke])) | ((first | apply wm_done | apply wt_done | apply wg_run | refine fk ?_ ?_) <;> (simp only [go_sem, int_bne, hke]))) | (first | refine cdq ?_ (hc := hs) | refine cmq ?_ (hc := hs) | refine ctq ?_ (hc := hs)); (simp only [go_sem]) | fail)
          rw [← hev] at hR
          all_goals (refine hR _ ?_; refine rat [] (hK := ⟨rfl, rfl⟩))
end Go.Proofs.YtnaebafafhamjaaGreat
/- Pending casts grow with the fuel; there are some if there is a cast. No program, no world. -/
namespace Go.Proofs.Grad
theorem E.pI_ge (k : Nat) : ∀ (x : E) (b : Nat), b ≤ x.pI k b := by
  induction k with
  | zero => intro x b; exact Nat.le_refl _
  | succ k ih =>
    intro x b
    rw [E.pI]
    split
    · rename_i y hy; have := ih y (max b y.nest); omega
    · exact Nat.le_refl _
theorem E.pI_le (k : Nat) : ∀ (m : Nat) (x : E) (b : Nat), k ≤ m → x.pI k b ≤ x.pI m b := by
  induction k with
  | zero => intro m x b h; exact E.pI_ge m x b
  | succ k ih =>
    intro m x b h
    obtain ⟨m, rfl⟩ : ∃ m', m = m' + 1 := ⟨m - 1, by omega⟩
    rw [E.pI, E.pI]
    split
    · exact ih m _ _ (by omega)
    · exact Nat.le_refl _
theorem E.nest_labs (e : E) : e.nest = 0 ↔ e.labs = [] := by
  induction e with
  | cast s t l a ih => simp [E.nest, E.labs]
  | app a b iha ihb | add a b iha ihb | less a b iha ihb | pair a b iha ihb =>
    simp only [E.nest, E.labs, List.append_eq_nil_iff, ← iha, ← ihb]; omega
  | ite a b c iha ihb ihc =>
    simp only [E.nest, E.labs, List.append_eq_nil_iff, ← iha, ← ihb, ← ihc]; omega
  | lam _ _ a ih | fst a ih | snd a ih | asc _ a ih => simpa only [E.nest, E.labs] using ih
  | _ => simp [E.nest, E.labs]
theorem Tm.pend_le (t : Tm) {f g : Int} (h0 : 0 ≤ f) (h1 : f ≤ g) (h9 : g ≤ 300) : Tm.pendV t f ≤ Tm.pendV t g := by
  cases hc : t.castV with
  | false => rw [Tm.pendV_bad hc, Tm.pendV_bad hc]; exact Nat.le_refl _
  | true =>
    obtain ⟨e, rfl, ho⟩ := Tm.castV_E hc
    obtain ⟨k, rfl⟩ := Int.eq_ofNat_of_zero_le h0
    obtain ⟨m, rfl⟩ := Int.eq_ofNat_of_zero_le (Int.le_trans h0 h1)
    rw [Tm.pendV_E ho k (by omega), Tm.pendV_E ho m (by omega)]
    exact E.pI_le k m e _ (by omega)
theorem Tm.pend_zero (t : Tm) : decide (((Tm.pendV t 0 : Nat) : Int) > 0) = decide (((t.labsV.length : Nat) : Int) > 0) := by
  cases hc : t.castV with
  | false => rw [Tm.pendV_bad hc]; unfold Tm.labsV; rw [hc]; rfl
  | true =>
    obtain ⟨e, rfl, ho⟩ := Tm.castV_E hc
    have h1 : Tm.pendV e.tm 0 = e.nest := Tm.pendV_E ho 0 (by omega)
    have h2 := e.nest_labs
    have h3 : setL e.labs = [] ↔ e.labs = [] := setL_nil_iff _
    rw [h1, Tm.labs_of ho]
    rw [Bool.eq_iff_iff]
    simp only [decide_eq_true_eq]
    have h4 : (setL e.labs).length = 0 ↔ e.nest = 0 := by rw [List.length_eq_zero_iff, h3, h2]
    clear h2 h3
    omega
end Go.Proofs.Grad
/- Pending casts grow with the fuel. On shadows. -/
namespace Go.Proofs.YtnaebafafhamjaaGreat
open Go.RowKit Go.Proofs.Sh Go.Proofs.Grad
set_option maxRecDepth 100000
set_option maxHeartbeats 16000000
theorem dPending (l : List Int) (hl : Code8 l) : ACl Tryz.prog 7 [.one (.sl (byR l))] [] OneXI := by
  have ho := dEvalCast l hl
  refine acl_in Tryz.func7 rfl isfn_7 (Nat.le_of_ble_eq_true rfl) (fun R hR => ?_); rw [Tryz.results7] at hR; refine wg_run ?_; (simp only [Tryz.f7, go_sem])
  repeat' (first | (first | (((first | apply sp1 | apply sp2 | apply sp3 | apply sp4 | apply sp5 | apply sp6 | apply sp7) <;> intro hb) <;> (simp only [go_sem, hb])) | ((first | apply wm_done | apply wt_done | apply wg_run | refine fk ?_ ?_) <;> (simp only [go_sem]))) | fail)
  ((first | refine kdq [] ?_ (hc := ho) | refine kmq [] ?_ (hc := ho) | refine ktq [] ?_ (hc := ho)); rintro _ _ ⟨x, f, rfl, hx, hf0, hf9, rfl⟩ <;> (simp only [go_sem]))
  repeat' (first | (first | (((first | apply sp1 | apply sp2 | apply sp3 | apply sp4 | apply sp5 | apply sp6 | apply sp7) <;> intro hb) <;> (simp only [go_sem, hb])) | ((first | apply wm_done | apply wt_done | apply wg_run | refine fk ?_ ?_) <;> (simp only [go_sem]))) | ((first | refine mxq6 [] ?_ | refine mxq5 [] ?_ | refine mxq4 [] ?_ | refine mxq3 [] ?_ | refine mxq2 [] ?_ | refine mxq1 [] ?_ | refine mxq0 [] ?_ | fail); (simp only [go_sem])) | fail)
  all_goals first
    | exact hR _ (rat [] (hK := ⟨x, f, rfl, hx, hf0, hf9, rfl⟩))
    | exact hR _ (rat [] (hK := ⟨x, 100, rfl, hx, by omega, by omega, rfl⟩))
theorem lPending (l : List Int) (hc : ∀ k, 0 ≤ byte l k ∧ byte l k < 256) : AFn Tryz.prog 3 [.one (.sl (byR l))] (.one (.sc (.bool true))) := by
  by_cases hlen : 1048576 < l.length
  · have hg : decide (((l.length : Nat) : Int) > 1048576) = true := by simp; omega
    refine fn_in ?_; refine acl_in Tryz.func3 rfl isfn_3 (Nat.le_of_ble_eq_true rfl) (fun R hR => ?_); rw [Tryz.results3] at hR; refine wg_run ?_; (simp only [Tryz.f3, go_sem, hg])
    (refine hR _ (rat [] (hK := ⟨rfl, rfl⟩)))
  · have hg : decide (((l.length : Nat) : Int) > 1048576) = false := by simp; omega
    have hd := dPending l ⟨by omega, hc⟩
    refine fn_in ?_; refine acl_in Tryz.func3 rfl isfn_3 (Nat.le_of_ble_eq_true rfl) (fun R hR => ?_); rw [Tryz.results3] at hR; refine wg_run ?_; (simp only [Tryz.f3, go_sem, hg])
    ((first | refine kdq [] ?_ (hc := hd) | refine kmq [] ?_ (hc := hd) | refine ktq [] ?_ (hc := hd)); rintro _ _ ⟨x, f, rfl, hx, hf0, hf9, rfl⟩ <;> (simp only [go_sem]))
    have h1 := iPendingCasts x f
    have h2 := sPendingCasts x (by omega) f
    have tri : f < 0 ∨ 300 < f ∨ (0 ≤ f ∧ f ≤ 300) := by omega
    rcases tri with hfr | hfr | hfr
    · have b3 : decide (f < 0) = true := by simpa using hfr
      repeat' (first | (first | (simp only [go_sem, b3, int_bne, beq_self_eq_true]) | (((first | apply sp1 | apply sp2 | apply sp3 | apply sp4 | apply sp5 | apply sp6 | apply sp7) <;> intro hb) <;> (simp only [go_sem, hb, b3, int_bne, beq_self_eq_true])) | ((first | apply wm_done | apply wt_done | apply wg_run | refine fk ?_ ?_) <;> (simp only [go_sem, b3, int_bne, beq_self_eq_true]))) | (first | refine cdq ?_ (hc := h1) | refine cmq ?_ (hc := h1) | refine ctq ?_ (hc := h1)); (simp only [go_sem]) | (first | refine cdq ?_ (hc := h2) | refine cmq ?_ (hc := h2) | refine ctq ?_ (hc := h2)); (simp only [go_sem]) | ((first | refine mxq6 [] ?_ | refine mxq5 [] ?_ | refine mxq4 [] ?_ | refine mxq3 [] ?_ | refine mxq2 [] ?_ | refine mxq1 [] ?_ | refine mxq0 [] ?_ | fail); (simp only [go_sem, b3, int_bne, beq_self_eq_true])) | fail)
      all_goals (refine hR _ (rat [] (hK := ⟨rfl, rfl⟩)))
    · have b3 : decide (f < 0) = false := by simp; omega
      have b4 : decide (f > 300) = true := by simpa using hfr
      repeat' (first | (first | (simp only [go_sem, b3, b4, int_bne, beq_self_eq_true]) | (((first | apply sp1 | apply sp2 | apply sp3 | apply sp4 | apply sp5 | apply sp6 | apply sp7) <;> intro hb) <;> (simp only [go_sem, hb, b3, b4, int_bne, beq_self_eq_true])) | ((first | apply wm_done | apply wt_done | apply wg_run | refine fk ?_ ?_) <;> (simp only [go_sem, b3, b4, int_bne, beq_self_eq_true]))) | (first | refine cdq ?_ (hc := h1) | refine cmq ?_ (hc := h1) | refine ctq ?_ (hc := h1)); (simp only [go_sem]) | (first | refine cdq ?_ (hc := h2) | refine cmq ?_ (hc := h2) | refine ctq ?_ (hc := h2)); (simp only [go_sem]) | ((first | refine mxq6 [] ?_ | refine mxq5 [] ?_ | refine mxq4 [] ?_ | refine mxq3 [] ?_ | refine mxq2 [] ?_ | refine mxq1 [] ?_ | refine mxq0 [] ?_ | fail); (simp only [go_sem, b3, b4, int_bne, beq_self_eq_true])) | fail)
      all_goals (refine hR _ (rat [] (hK := ⟨rfl, rfl⟩)))
    · have b3 : decide (f < 0) = false := by simp; omega
      have b4 : decide (f > 300) = false := by simp; omega
      obtain ⟨h, hh, hh0, hh1⟩ : ∃ h : Int, f.tdiv 2 = h ∧ 0 ≤ h ∧ h ≤ f := ⟨_, rfl, by rw [Int.tdiv_eq_ediv_of_nonneg hfr.1]; omega, by rw [Int.tdiv_eq_ediv_of_nonneg hfr.1]; omega⟩
      have hw : IntKind.i64.wrap h = h := IntWalk.i64_in _ (by omega)
      have h3 := iPendingCasts x 0
      have h4 := iPendingCasts x h
      have h5 := iCastLabels x (by omega)
      have m1 := Tm.pend_le x (f := 0) (g := h) (by omega) (by omega) (by omega)
      have m2 := Tm.pend_le x (f := h) (g := f) (by omega) (by omega) (by omega)
      have m3 := Tm.pend_zero x
      generalize x.labsV = L at *
      generalize Tm.pendV x 0 = n0 at *
      generalize Tm.pendV x h = n1 at *
      generalize Tm.pendV x f = n2 at *
      have b5 : decide (((n0 : Nat) : Int) ≤ ((n1 : Nat) : Int)) = true := decide_eq_true (by omega)
      have b6 : decide (((n1 : Nat) : Int) ≤ ((n2 : Nat) : Int)) = true := decide_eq_true (by omega)
      repeat' (first | (first | (simp only [go_sem, b3, b4, hh, hw, b5, b6, m3, int_bne, beq_self_eq_true]) | (((first | apply sp1 | apply sp2 | apply sp3 | apply sp4 | apply sp5 | apply sp6 | apply sp7) <;> intro hb) <;> (simp only [go_sem, hb, b3, b4, hh, hw, b5, b6, m3, int_bne, beq_self_eq_true])) | ((first | apply wm_done | apply wt_done | apply wg_run | refine fk ?_ ?_) <;> (simp only [go_sem, b3, b4, hh, hw, b5, b6, m3, int_bne, beq_self_eq_true]))) | (first | refine cdq ?_ (hc := h1) | refine cmq ?_ (hc := h1) | refine ctq ?_ (hc := h1)); (simp only [go_sem]) | (first | refine cdq ?_ (hc := h2) | refine cmq ?_ (hc := h2) | refine ctq ?_ (hc := h2)); (simp only [go_sem]) | (first | refine cdq ?_ (hc := h3) | refine cmq ?_ (hc := h3) | refine ctq ?_ (hc := h3)); (simp only [go_sem]) | (first | refine cdq ?_ (hc := h4) | refine cmq ?_ (hc := h4) | refine ctq ?_ (hc := h4)); (simp only [go_sem]) | (first | refine cdq ?_ (hc := h5) | refine cmq ?_ (hc := h5) | refine ctq ?_ (hc := h5)); (simp only [go_sem]) | ((first | refine mxq6 [] ?_ | refine mxq5 [] ?_ | refine mxq4 [] ?_ | refine mxq3 [] ?_ | refine mxq2 [] ?_ | refine mxq1 [] ?_ | refine mxq0 [] ?_ | fail); (simp only [go_sem, b3, b4, hh, hw, b5, b6, m3, int_bne, beq_self_eq_true])) | fail)
      all_goals (refine hR _ (rat [] (hK := ⟨rfl, rfl⟩)))
end Go.Proofs.YtnaebafafhamjaaGreat
