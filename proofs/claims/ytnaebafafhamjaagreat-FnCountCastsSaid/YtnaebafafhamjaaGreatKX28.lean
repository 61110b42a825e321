/- Texts of the proof, one behind another. -/
import Derived.Test.YtnaebafafhamjaaGreatKX14
import Derived.Test.YtnaebafafhamjaaGreatKX23
import Derived.Test.YtnaebafafhamjaaGreatKX27
set_option linter.unusedSimpArgs false
set_option linter.unusedVariables false
/- Evaluation of terms with casts, in the program and in the reference. On shadows. -/
namespace Go.Proofs.Grad
end Go.Proofs.Grad
namespace Go.Proofs.YtnaebafafhamjaaGreat
open Go.RowKit Go.Proofs.Sh Go.Proofs.Grad
set_option maxRecDepth 100000
set_option maxHeartbeats 8000000
theorem iIsFuel (f : Int) : AFn Tryz.prog 31 [.one (.sc (.int .i64 f))] (.one (.sc (.bool (decide (0 ≤ f) && decide (f ≤ 300))))) := by
  have h := within f 0 300
  refine fn_in ?_; refine acl_in Tryz.func31 rfl isfn_31 (Nat.le_of_ble_eq_true rfl) (fun R hR => ?_); rw [Tryz.results31] at hR; refine wg_run ?_; (simp only [Tryz.f31, go_sem])
  repeat' (first | (first | (((first | apply sp1 | apply sp2 | apply sp3 | apply sp4 | apply sp5 | apply sp6 | apply sp7) <;> intro hb) <;> (simp only [go_sem, hb])) | ((first | apply wm_done | apply wt_done | apply wg_run | refine fk ?_ ?_) <;> (simp only [go_sem]))) | (first | refine cdq ?_ (hc := h) | refine cmq ?_ (hc := h) | refine ctq ?_ (hc := h)); (simp only [go_sem]) | fail)
  all_goals (refine hR _ ?_; refine rat [] (hK := ⟨rfl, rfl⟩))
end Go.Proofs.YtnaebafafhamjaaGreat
/- StepCast and EvalCast at terms as they come, in the program and in the reference. On shadows. -/
namespace Go.Proofs.YtnaebafafhamjaaGreat
open Go.RowKit Go.Proofs.Sh Go.Proofs.Grad
set_option maxRecDepth 100000
set_option maxHeartbeats 8000000
end Go.Proofs.YtnaebafafhamjaaGreat
/- The reference's draws of terms with casts. On shadows. -/
namespace Go.Proofs.Grad
theorem E.size_wf (e : E) (h : e.wf = true) : e.tm.size ≤ 40 * e.nodes := by
  induction e with
  | var _ | num _ | tru | fls => simp [E.tm, nd, Tm.size, Tm.sizes, noTy, Ty.size, Ty.sizes, E.nodes]
  | lam x t a ih =>
    simp only [E.wf, Bool.and_eq_true, decide_eq_true_eq] at h
    have := T.ty_size16 h.2.1; have := ih h.2.2
    simp only [E.tm, Tm.size, Tm.sizes, noTy, Ty.size, Ty.sizes, E.nodes]; omega
  | app a b iha ihb | add a b iha ihb | less a b iha ihb | pair a b iha ihb =>
    simp only [E.wf, Bool.and_eq_true] at h
    have := iha h.1; have := ihb h.2
    simp only [E.tm, nd, Tm.size, Tm.sizes, noTy, Ty.size, Ty.sizes, E.nodes]; omega
  | ite a b c iha ihb ihc =>
    simp only [E.wf, Bool.and_eq_true] at h
    have := iha h.1; have := ihb h.2.1; have := ihc h.2.2
    simp only [E.tm, nd, Tm.size, Tm.sizes, noTy, Ty.size, Ty.sizes, E.nodes]; omega
  | fst a ih | snd a ih =>
    simp only [E.wf] at h
    have := ih h
    simp only [E.tm, nd, Tm.size, Tm.sizes, noTy, Ty.size, Ty.sizes, E.nodes]; omega
  | asc t a ih =>
    simp only [E.wf, Bool.and_eq_true, decide_eq_true_eq] at h
    have := T.ty_size16 h.1; have := ih h.2
    simp only [E.tm, Tm.size, Tm.sizes, noTy, Ty.size, Ty.sizes, E.nodes]; omega
  | cast s t l a ih =>
    simp only [E.wf, Bool.and_eq_true, decide_eq_true_eq] at h
    have := T.ty_size16 h.1.1; have := T.ty_size16 h.1.2; have := ih h.2.2.2
    simp only [E.tm, Tm.size, Tm.sizes, noTy, Ty.size, Ty.sizes, E.nodes]; omega
end Go.Proofs.Grad
namespace Go.Proofs.YtnaebafafhamjaaGreat
open Go.RowKit Go.Proofs.Sh Go.Proofs.Grad
set_option maxRecDepth 100000
set_option maxHeartbeats 16000000
theorem l4Random (bs : List Int) (hB : Bs bs) (p : Nat) (hp : p < 690000000) : ACl Tryz.prog 70 [.one (.ptr 2 0 0 0)] [(⟨2, 115, .mut, [[.sl (byR bs), .sc (.int .i64 ((p : Nat) : Int))]]⟩ : Blk)] (DrawsX bs p 661000 4600000) := by
  have h0 := l3Typed bs hB p (by omega)
  refine acl_in Tryz.func70 rfl isfn_70 (Nat.le_of_ble_eq_true rfl) (fun R hR => ?_); rw [Tryz.results70] at hR; refine wg_run ?_; (simp only [Tryz.f70, go_sem])
  repeat' (first | (first | (((first | apply sp1 | apply sp2 | apply sp3 | apply sp4 | apply sp5 | apply sp6 | apply sp7) <;> intro hb) <;> (simp only [go_sem, hb])) | ((first | apply wm_done | apply wt_done | apply wg_run | refine fk ?_ ?_) <;> (simp only [go_sem]))) | fail)
  ((first | refine kdq [0] ?_ (hc := h0) | refine kmq [0] ?_ (hc := h0) | refine ktq [0] ?_ (hc := h0)); rintro _ _ ⟨e, q, rfl, he, hc, hs, hq, rfl⟩; (simp only [go_sem]))
  have hi := sInsertCasts e he hc (by omega)
  have hnd := E.nodes_tm e
  repeat' (first | (first | (((first | apply sp1 | apply sp2 | apply sp3 | apply sp4 | apply sp5 | apply sp6 | apply sp7) <;> intro hb) <;> (simp only [go_sem, hb])) | ((first | apply wm_done | apply wt_done | apply wg_run | refine fk ?_ ?_) <;> (simp only [go_sem]))) | ((first | refine kdq [] ?_ (hc := hi) | refine kmq [] ?_ (hc := hi) | refine ktq [] ?_ (hc := hi)); rintro _ _ (⟨x, t, rfl, hx, ht, rfl⟩ | ⟨rfl, rfl⟩) <;> (simp only [go_sem])) | fail)
  · ((first | refine kdq [0] ?_ (hc := pick bs hB _ (by omega) 3 (by omega) (by omega)) | refine kmq [0] ?_ (hc := pick bs hB _ (by omega) 3 (by omega) (by omega)) | refine ktq [0] ?_ (hc := pick bs hB _ (by omega) 3 (by omega) (by omega))); rintro _ _ ⟨z, rfl, hz, hz1, rfl⟩; (simp only [go_sem]))
    obtain ⟨i0, rfl⟩ := Int.eq_ofNat_of_zero_le hz
    have hi0 : i0 ≤ 2 := by omega
    clear hz1
    refine wd_for [0, 2, 3, 4, 6] (fun (y : Nat × Nat × Tm × T) => [.one (.ptr 2 0 0 0), .one (.ptr 9 1 0 0), .one (.ptr 9 2 0 0), .one (.ptr 2 3 0 0), .one (.sc (.int .i64 (y.1 : Nat)))])
      (fun y => [(⟨2, 115, .mut, [[.sl (byR bs), .sc (.int .i64 ((y.2.1 : Nat) : Int))]]⟩ : Blk), ⟨9, 28, .mut, [[.sc (.int .i64 0), .sc (.string { data := { toList := [] } }), .sc (.int .i64 0), .sc (.int .i64 0), .sc (.slice none 0 0), .sc (.int .i64 0), .sc (.slice none 0 0), .sc (.int .i64 0), .sc (.slice none 0 0)]]⟩, ⟨9, 28, .mut, [teC y.2.2.1]⟩, ⟨2, 25, .mut, [tyC y.2.2.2.ty]⟩])
      (fun y => y.1 ≤ 2 ∧ y.2.1 + y.1 * 100 ≤ q + 201 ∧ y.2.2.1.size + y.1 * 31 ≤ 4590000 ∧ y.2.2.2.depth ≤ 4) (fun y => y.1) (i0, q + 1, x, t) ⟨hi0, by first | omega | (simp only []; omega), by first | omega | (simp only []; omega), ht⟩ (hat [1, 2, 3] (hI := ⟨rfl, rfl⟩)) ?_
    clear hx ht hi h0
    rintro ⟨i, q1, x, t⟩ ⟨hi, hq1, hx, ht⟩ G hG
    simp only [] at hi hq1 hx ht
    refine wg_run ?_
    rcases i with _ | i
    · clear hG
      (simp only [go_sem])
      repeat' (first | (first | (((first | apply sp1 | apply sp2 | apply sp3 | apply sp4 | apply sp5 | apply sp6 | apply sp7) <;> intro hb) <;> (simp only [go_sem, hb])) | ((first | apply wm_done | apply wt_done | apply wg_run | refine fk ?_ ?_) <;> (simp only [go_sem]))) | fail)
      exact hR _ (rat [] (hK := ⟨x, q1, rfl, by omega, by omega, rfl⟩))
    · have d1 : decide (((i + 1 : Nat) : Int) > 0) = true := decide_eq_true (by omega)
      have hw1 : IntKind.i64.wrap (((i + 1 : Nat) : Int) - 1) = (i : Int) := by rw [IntWalk.i64_in _ (by omega)]; omega
      have hw5 : IntKind.i64.wrap (50 + ((i + 1 : Nat) : Int)) = ((51 + i : Nat) : Int) := by rw [IntWalk.i64_in _ (by omega)]; omega
      have hw6 : IntKind.i64.wrap (0 - ((51 + i : Nat) : Int)) = -((51 + i : Nat) : Int) := by rw [IntWalk.i64_in _ (by omega)]; omega
      have hts := tys 4 t ht
      (simp only [go_sem, d1])
      repeat' (first | (first | (simp only [go_sem, d1]) | (((first | apply sp1 | apply sp2 | apply sp3 | apply sp4 | apply sp5 | apply sp6 | apply sp7) <;> intro hb) <;> (simp only [go_sem, hb, d1])) | ((first | apply wm_done | apply wt_done | apply wg_run | refine fk ?_ ?_) <;> (simp only [go_sem, d1]))) | fail)
      ((first | refine kdq [0] ?_ (hc := l1BlurS bs hB t _ (by omega)) | refine kmq [0] ?_ (hc := l1BlurS bs hB t _ (by omega)) | refine ktq [0] ?_ (hc := l1BlurS bs hB t _ (by omega))); rintro _ _ ⟨u0, q2, rfl, hu0, hq2, rfl⟩; (simp only [go_sem]))
      repeat' (first | (first | (simp only [go_sem, d1]) | (((first | apply sp1 | apply sp2 | apply sp3 | apply sp4 | apply sp5 | apply sp6 | apply sp7) <;> intro hb) <;> (simp only [go_sem, hb, d1])) | ((first | apply wm_done | apply wt_done | apply wg_run | refine fk ?_ ?_) <;> (simp only [go_sem, d1]))) | fail)
      ((first | refine kdq [0] ?_ (hc := pick bs hB _ (by omega) 2 (by omega) (by omega)) | refine kmq [0] ?_ (hc := pick bs hB _ (by omega) 2 (by omega) (by omega)) | refine ktq [0] ?_ (hc := pick bs hB _ (by omega) 2 (by omega) (by omega))); rintro _ _ ⟨z2, rfl, hz2, hz2b, rfl⟩; (simp only [go_sem]))
      obtain ⟨q3, hq3⟩ : ∃ q3, q3 = q2 + 1 := ⟨_, rfl⟩
      rw [← hq3]
      have fin : ∀ (u : T), u.depth ≤ 4 → ∀ n : Int, -100 ≤ n → n ≤ 100 → (casT x t u n).1.size ≤ x.size + 31 := fun u hu n _ _ => (casT_size x ht hu n).1
      have lc : ∀ (u : T), u.depth ≤ 4 → ∀ n : Int, -100 ≤ n → n ≤ 100 → _ := fun u hu n h1 h2 => l4Cast x t u ht hu n (by omega) (by omega)
      repeat' (first | (first | (simp only [go_sem, d1]) | (((first | apply sp1 | apply sp2 | apply sp3 | apply sp4 | apply sp5 | apply sp6 | apply sp7) <;> intro hb) <;> (simp only [go_sem, hb, d1])) | ((first | apply wm_done | apply wt_done | apply wg_run | refine fk ?_ ?_) <;> (simp only [go_sem, d1]))) | fail)
      · ((first | refine kdq [0] ?_ (hc := l1Type bs hB _ (by omega)) | refine kmq [0] ?_ (hc := l1Type bs hB _ (by omega)) | refine ktq [0] ?_ (hc := l1Type bs hB _ (by omega))); rintro _ _ ⟨u, q4, rfl, hu, hq4, rfl⟩; (simp only [go_sem]))
        have hcs := sConsT t u
        repeat' (first | (first | (simp only [go_sem, d1]) | (((first | apply sp1 | apply sp2 | apply sp3 | apply sp4 | apply sp5 | apply sp6 | apply sp7) <;> intro hb) <;> (simp only [go_sem, hb, d1])) | ((first | apply wm_done | apply wt_done | apply wg_run | refine fk ?_ ?_) <;> (simp only [go_sem, d1]))) | (first | refine cdq ?_ (hc := hcs) | refine cmq ?_ (hc := hcs) | refine ctq ?_ (hc := hcs)); (simp only [go_sem]) | fail)
        · ((first | refine kdq [0] ?_ (hc := pick bs hB _ (by omega) 3 (by omega) (by omega)) | refine kmq [0] ?_ (hc := pick bs hB _ (by omega) 3 (by omega) (by omega)) | refine ktq [0] ?_ (hc := pick bs hB _ (by omega) 3 (by omega) (by omega))); rintro _ _ ⟨z3, rfl, hz3, hz3b, rfl⟩; (simp only [go_sem]))
          (simp only [go_sem, hw5])
          repeat' (first | (first | (simp only [go_sem, hw5, hw6]) | (((first | apply sp1 | apply sp2 | apply sp3 | apply sp4 | apply sp5 | apply sp6 | apply sp7) <;> intro hb) <;> (simp only [go_sem, hb, hw5, hw6])) | ((first | apply wm_done | apply wt_done | apply wg_run | refine fk ?_ ?_) <;> (simp only [go_sem, hw5, hw6]))) | (first | refine cdq ?_ (hc := lc u hu _ (by omega) (by omega)) | refine cmq ?_ (hc := lc u hu _ (by omega) (by omega)) | refine ctq ?_ (hc := lc u hu _ (by omega) (by omega))); (simp only [go_sem]) | fail)
          all_goals repeat' (first | (first | (simp only [go_sem, hw1]) | (((first | apply sp1 | apply sp2 | apply sp3 | apply sp4 | apply sp5 | apply sp6 | apply sp7) <;> intro hb) <;> (simp only [go_sem, hb, hw1])) | ((first | apply wm_done | apply wt_done | apply wg_run | refine fk ?_ ?_) <;> (simp only [go_sem, hw1]))) | fail)
          · exact hG (i, q4 + 1, (casT x t u (-((51 + i : Nat) : Int))).1, u) _ _ ⟨by first | omega | (simp only []; omega), by first | omega | (simp only []; omega), by have := fin u hu (-((51 + i : Nat) : Int)) (by omega) (by omega); first | omega | (simp only []; omega), hu⟩ (by first | omega | (simp only []; omega)) (hat [1, 2, 3] (hI := ⟨rfl, rfl⟩))
          · exact hG (i, q4 + 1, (casT x t u ((51 + i : Nat) : Int)).1, u) _ _ ⟨by first | omega | (simp only []; omega), by first | omega | (simp only []; omega), by have := fin u hu ((51 + i : Nat) : Int) (by omega) (by omega); first | omega | (simp only []; omega), hu⟩ (by first | omega | (simp only []; omega)) (hat [1, 2, 3] (hI := ⟨rfl, rfl⟩))
        · repeat' (first | (first | (simp only [go_sem, hw1]) | (((first | apply sp1 | apply sp2 | apply sp3 | apply sp4 | apply sp5 | apply sp6 | apply sp7) <;> intro hb) <;> (simp only [go_sem, hb, hw1])) | ((first | apply wm_done | apply wt_done | apply wg_run | refine fk ?_ ?_) <;> (simp only [go_sem, hw1]))) | fail)
          exact hG (i, q4, x, t) _ _ ⟨by first | omega | (simp only []; omega), by first | omega | (simp only []; omega), by first | omega | (simp only []; omega), ht⟩ (by first | omega | (simp only []; omega)) (hat [1, 2, 3] (hI := ⟨rfl, rfl⟩))
      · have hu : u0.depth ≤ 4 := by omega
        have hcs := sConsT t u0
        repeat' (first | (first | (simp only [go_sem, d1]) | (((first | apply sp1 | apply sp2 | apply sp3 | apply sp4 | apply sp5 | apply sp6 | apply sp7) <;> intro hb) <;> (simp only [go_sem, hb, d1])) | ((first | apply wm_done | apply wt_done | apply wg_run | refine fk ?_ ?_) <;> (simp only [go_sem, d1]))) | (first | refine cdq ?_ (hc := hcs) | refine cmq ?_ (hc := hcs) | refine ctq ?_ (hc := hcs)); (simp only [go_sem]) | fail)
        · ((first | refine kdq [0] ?_ (hc := pick bs hB _ (by omega) 3 (by omega) (by omega)) | refine kmq [0] ?_ (hc := pick bs hB _ (by omega) 3 (by omega) (by omega)) | refine ktq [0] ?_ (hc := pick bs hB _ (by omega) 3 (by omega) (by omega))); rintro _ _ ⟨z3, rfl, hz3, hz3b, rfl⟩; (simp only [go_sem]))
          (simp only [go_sem, hw5])
          repeat' (first | (first | (simp only [go_sem, hw5, hw6]) | (((first | apply sp1 | apply sp2 | apply sp3 | apply sp4 | apply sp5 | apply sp6 | apply sp7) <;> intro hb) <;> (simp only [go_sem, hb, hw5, hw6])) | ((first | apply wm_done | apply wt_done | apply wg_run | refine fk ?_ ?_) <;> (simp only [go_sem, hw5, hw6]))) | (first | refine cdq ?_ (hc := lc u0 hu _ (by omega) (by omega)) | refine cmq ?_ (hc := lc u0 hu _ (by omega) (by omega)) | refine ctq ?_ (hc := lc u0 hu _ (by omega) (by omega))); (simp only [go_sem]) | fail)
          all_goals repeat' (first | (first | (simp only [go_sem, hw1]) | (((first | apply sp1 | apply sp2 | apply sp3 | apply sp4 | apply sp5 | apply sp6 | apply sp7) <;> intro hb) <;> (simp only [go_sem, hb, hw1])) | ((first | apply wm_done | apply wt_done | apply wg_run | refine fk ?_ ?_) <;> (simp only [go_sem, hw1]))) | fail)
          · exact hG (i, q3 + 1, (casT x t u0 (-((51 + i : Nat) : Int))).1, u0) _ _ ⟨by first | omega | (simp only []; omega), by first | omega | (simp only []; omega), by have := fin u0 hu (-((51 + i : Nat) : Int)) (by omega) (by omega); first | omega | (simp only []; omega), hu⟩ (by first | omega | (simp only []; omega)) (hat [1, 2, 3] (hI := ⟨rfl, rfl⟩))
          · exact hG (i, q3 + 1, (casT x t u0 ((51 + i : Nat) : Int)).1, u0) _ _ ⟨by first | omega | (simp only []; omega), by first | omega | (simp only []; omega), by have := fin u0 hu ((51 + i : Nat) : Int) (by omega) (by omega); first | omega | (simp only []; omega), hu⟩ (by first | omega | (simp only []; omega)) (hat [1, 2, 3] (hI := ⟨rfl, rfl⟩))
        · repeat' (first | (first | (simp only [go_sem, hw1]) | (((first | apply sp1 | apply sp2 | apply sp3 | apply sp4 | apply sp5 | apply sp6 | apply sp7) <;> intro hb) <;> (simp only [go_sem, hb, hw1])) | ((first | apply wm_done | apply wt_done | apply wg_run | refine fk ?_ ?_) <;> (simp only [go_sem, hw1]))) | fail)
          exact hG (i, q3, x, t) _ _ ⟨by first | omega | (simp only []; omega), by first | omega | (simp only []; omega), by first | omega | (simp only []; omega), ht⟩ (by first | omega | (simp only []; omega)) (hat [1, 2, 3] (hI := ⟨rfl, rfl⟩))
  · have h6 := l2NumS 6
    repeat' (first | (first | (((first | apply sp1 | apply sp2 | apply sp3 | apply sp4 | apply sp5 | apply sp6 | apply sp7) <;> intro hb) <;> (simp only [go_sem, hb])) | ((first | apply wm_done | apply wt_done | apply wg_run | refine fk ?_ ?_) <;> (simp only [go_sem]))) | (first | refine cdq ?_ (hc := h6) | refine cmq ?_ (hc := h6) | refine ctq ?_ (hc := h6)); (simp only [go_sem]) | fail)
    exact hR _ (rat [] (hK := ⟨(E.num 6).tm, q, rfl, by simp [E.tm, Tm.size, Tm.sizes, noTy, Ty.size, Ty.sizes], by omega, rfl⟩))
theorem l4Mutate (bs : List Int) (hB : Bs bs) (p : Nat) (hp : p < 695000000) (t : Tm) (ht : t.size < 9000000) : ACl Tryz.prog 69 [.one (.ptr 2 0 0 0), .agg (teC t)] [(⟨2, 115, .mut, [[.sl (byR bs), .sc (.int .i64 ((p : Nat) : Int))]]⟩ : Blk)] (DrawsX bs p 100 (t.size + 200)) := by
  have h0 := l2Mutate bs hB p (by omega) t (by omega)
  refine acl_in Tryz.func69 rfl isfn_69 (Nat.le_of_ble_eq_true rfl) (fun R hR => ?_); rw [Tryz.results69] at hR; refine wg_run ?_; (simp only [Tryz.f69, go_sem])
  repeat' (first | (first | (((first | apply sp1 | apply sp2 | apply sp3 | apply sp4 | apply sp5 | apply sp6 | apply sp7) <;> intro hb) <;> (simp only [go_sem, hb])) | ((first | apply wm_done | apply wt_done | apply wg_run | refine fk ?_ ?_) <;> (simp only [go_sem]))) | fail)
  ((first | refine kdq [0] ?_ (hc := h0) | refine kmq [0] ?_ (hc := h0) | refine ktq [0] ?_ (hc := h0)); rintro _ _ ⟨t1, q, rfl, ht1, hq, rfl⟩; (simp only [go_sem]))
  have et := teC_eq t1
  have e : t1.size = 1 + (t1.type.size + t1.frm.size + Tm.sizes t1.kids) := by cases t1; rfl
  repeat' (first | (first | (((first | apply sp1 | apply sp2 | apply sp3 | apply sp4 | apply sp5 | apply sp6 | apply sp7) <;> intro hb) <;> (simp only [go_sem, hb])) | ((first | apply wm_done | apply wt_done | apply wg_run | refine fk ?_ ?_) <;> (simp only [go_sem]))) | fail)
  ((first | refine kdq [0] ?_ (hc := pick bs hB _ (by omega) 40 (by omega) (by omega)) | refine kmq [0] ?_ (hc := pick bs hB _ (by omega) 40 (by omega) (by omega)) | refine ktq [0] ?_ (hc := pick bs hB _ (by omega) 40 (by omega) (by omega))); rintro _ _ ⟨z, rfl, hz, hz1, rfl⟩; (simp only [go_sem]))
  repeat' (first | (first | (simp only [go_sem, et]) | (((first | apply sp1 | apply sp2 | apply sp3 | apply sp4 | apply sp5 | apply sp6 | apply sp7) <;> intro hb) <;> (simp only [go_sem, hb, et])) | ((first | apply wm_done | apply wt_done | apply wg_run | refine fk ?_ ?_) <;> (simp only [go_sem, et]))) | fail)
  · ((first | refine kdq [0] ?_ (hc := num bs hB _ (by omega) [0, 100, -9223372036854775808, 3] (by decide) (by decide)) | refine kmq [0] ?_ (hc := num bs hB _ (by omega) [0, 100, -9223372036854775808, 3] (by decide) (by decide)) | refine ktq [0] ?_ (hc := num bs hB _ (by omega) [0, 100, -9223372036854775808, 3] (by decide) (by decide))); rintro _ _ ⟨y, rfl, hy, rfl⟩; (simp only [go_sem]))
    repeat' (first | (first | (simp only [go_sem, et]) | (((first | apply sp1 | apply sp2 | apply sp3 | apply sp4 | apply sp5 | apply sp6 | apply sp7) <;> intro hb) <;> (simp only [go_sem, hb, et])) | ((first | apply wm_done | apply wt_done | apply wg_run | refine fk ?_ ?_) <;> (simp only [go_sem, et]))) | ((first | refine mxq6 [] ?_ | refine mxq5 [] ?_ | refine mxq4 [] ?_ | refine mxq3 [] ?_ | refine mxq2 [] ?_ | refine mxq1 [] ?_ | refine mxq0 [] ?_ | fail); (simp only [go_sem, et])) | fail)
    exact hR _ (rat [] (hK := ⟨.mk t1.kind t1.name t1.num t1.type t1.frm y t1.kids, q + 2, by rw [teC_eq]; rfl, by simp only [Tm.size]; omega, by omega, rfl⟩))
  · ((first | refine kdq [0] ?_ (hc := l1Type bs hB _ (by omega)) | refine kmq [0] ?_ (hc := l1Type bs hB _ (by omega)) | refine ktq [0] ?_ (hc := l1Type bs hB _ (by omega))); rintro _ _ ⟨x1, q1, rfl, hx1, hq1, rfl⟩; (simp only [go_sem]))
    have hx9 := tys 4 x1 hx1
    have hm := l1Mutate bs hB q1 (by omega) x1.ty (by rw [T.ty_size]; omega)
    repeat' (first | (first | (simp only [go_sem, et]) | (((first | apply sp1 | apply sp2 | apply sp3 | apply sp4 | apply sp5 | apply sp6 | apply sp7) <;> intro hb) <;> (simp only [go_sem, hb, et])) | ((first | apply wm_done | apply wt_done | apply wg_run | refine fk ?_ ?_) <;> (simp only [go_sem, et]))) | fail)
    ((first | refine kdq [0] ?_ (hc := hm) | refine kmq [0] ?_ (hc := hm) | refine ktq [0] ?_ (hc := hm)); rintro _ _ ⟨y, q2, rfl, hy, hq2, rfl⟩; (simp only [go_sem]))
    rw [T.ty_size] at hy
    repeat' (first | (first | (simp only [go_sem, et]) | (((first | apply sp1 | apply sp2 | apply sp3 | apply sp4 | apply sp5 | apply sp6 | apply sp7) <;> intro hb) <;> (simp only [go_sem, hb, et])) | ((first | apply wm_done | apply wt_done | apply wg_run | refine fk ?_ ?_) <;> (simp only [go_sem, et]))) | ((first | refine mxq6 [] ?_ | refine mxq5 [] ?_ | refine mxq4 [] ?_ | refine mxq3 [] ?_ | refine mxq2 [] ?_ | refine mxq1 [] ?_ | refine mxq0 [] ?_ | fail); (simp only [go_sem, et])) | fail)
    exact hR _ (rat [] (hK := ⟨.mk t1.kind t1.name t1.num t1.type y t1.label t1.kids, q2, by rw [teC_eq]; rfl, by simp only [Tm.size]; omega, by omega, rfl⟩))
  · repeat' (first | (first | (simp only [go_sem, et]) | (((first | apply sp1 | apply sp2 | apply sp3 | apply sp4 | apply sp5 | apply sp6 | apply sp7) <;> intro hb) <;> (simp only [go_sem, hb, et])) | ((first | apply wm_done | apply wt_done | apply wg_run | refine fk ?_ ?_) <;> (simp only [go_sem, et]))) | fail)
    exact hR _ (rat [] (hK := ⟨t1, q + 1, by rw [teC_eq], by omega, by omega, rfl⟩))
/-- a term, not too large -/
def OneX (r : AV) (H' : List Blk) : Prop := ∃ x : Tm, r = .agg (teC x) ∧ x.size ≤ 5000000 ∧ H' = []
/-- a term, not too large, and a number -/
def OneXI (r : AV) (H' : List Blk) : Prop := ∃ (x : Tm) (n : Int), r = .tup [.agg (teC x), .one (.sc (.int .i64 n))] ∧ x.size ≤ 5000000 ∧ -9223372036854775808 ≤ n ∧ n ≤ 9223372036854775807 ∧ H' = []
theorem dCastValid (l : List Int) (hl : Code8 l) : ACl Tryz.prog 53 [.one (.sl (byR l))] [] OneX := by
  have ho := opn l hl.len hl.all
  refine acl_in Tryz.func53 rfl isfn_53 (Nat.le_of_ble_eq_true rfl) (fun R hR => ?_); rw [Tryz.results53] at hR; refine wg_run ?_; (simp only [Tryz.f53, go_sem])
  ((first | refine kdq [] ?_ (hc := ho) | refine kmq [] ?_ (hc := ho) | refine ktq [] ?_ (hc := ho)); rintro _ _ ⟨bs, hB, rfl, rfl⟩ <;> (simp only [go_sem]))
  have ht := l4Random bs hB 0 (by omega)
  repeat' (first | (first | (((first | apply sp1 | apply sp2 | apply sp3 | apply sp4 | apply sp5 | apply sp6 | apply sp7) <;> intro hb) <;> (simp only [go_sem, hb])) | ((first | apply wm_done | apply wt_done | apply wg_run | refine fk ?_ ?_) <;> (simp only [go_sem]))) | fail)
  ((first | refine kdq [1] ?_ (hc := ht) | refine kmq [1] ?_ (hc := ht) | refine ktq [1] ?_ (hc := ht)); rintro _ _ ⟨x, p, rfl, hx, hp, rfl⟩ <;> (simp only [go_sem]))
  have hm := l4Mutate bs hB p (by omega) x (by omega)
  repeat' (first | (first | (((first | apply sp1 | apply sp2 | apply sp3 | apply sp4 | apply sp5 | apply sp6 | apply sp7) <;> intro hb) <;> (simp only [go_sem, hb])) | ((first | apply wm_done | apply wt_done | apply wg_run | refine fk ?_ ?_) <;> (simp only [go_sem]))) | fail)
  ((first | refine kdq [1] ?_ (hc := hm) | refine kmq [1] ?_ (hc := hm) | refine ktq [1] ?_ (hc := hm)); rintro _ _ ⟨y, q, rfl, hy, hq, rfl⟩ <;> (simp only [go_sem]))
  repeat' (first | (first | (((first | apply sp1 | apply sp2 | apply sp3 | apply sp4 | apply sp5 | apply sp6 | apply sp7) <;> intro hb) <;> (simp only [go_sem, hb])) | ((first | apply wm_done | apply wt_done | apply wg_run | refine fk ?_ ?_) <;> (simp only [go_sem]))) | fail)
  exact hR _ (rat [] (hK := ⟨y, rfl, by omega, rfl⟩))
theorem l5Fuel (bs : List Int) (hB : Bs bs) (p : Nat) (hp : p < 999990000) : ACl Tryz.prog 71 [.one (.ptr 2 0 0 0)] [(⟨2, 115, .mut, [[.sl (byR bs), .sc (.int .i64 ((p : Nat) : Int))]]⟩ : Blk)] (fun r H' => ∃ z : Int, r = .one (.sc (.int .i64 z)) ∧ -1 ≤ z ∧ z ≤ 301 ∧ H' = [(⟨2, 115, .mut, [[.sl (byR bs), .sc (.int .i64 ((p + 1 : Nat) : Int))]]⟩ : Blk)]) := by
  have h1 := num bs hB p (by omega) [100, 200, 60, 3, 0, 300, 301, -1] (by decide) (by decide)
  refine acl_in Tryz.func71 rfl isfn_71 (Nat.le_of_ble_eq_true rfl) (fun R hR => ?_); rw [Tryz.results71] at hR; refine wg_run ?_; (simp only [Tryz.f71, go_sem])
  repeat' (first | (first | (((first | apply sp1 | apply sp2 | apply sp3 | apply sp4 | apply sp5 | apply sp6 | apply sp7) <;> intro hb) <;> (simp only [go_sem, hb])) | ((first | apply wm_done | apply wt_done | apply wg_run | refine fk ?_ ?_) <;> (simp only [go_sem]))) | fail)
  ((first | refine kdq [0] ?_ (hc := h1) | refine kmq [0] ?_ (hc := h1) | refine ktq [0] ?_ (hc := h1)); rintro _ _ ⟨z, rfl, hz, rfl⟩; (simp only [go_sem]))
  repeat' (first | (first | (((first | apply sp1 | apply sp2 | apply sp3 | apply sp4 | apply sp5 | apply sp6 | apply sp7) <;> intro hb) <;> (simp only [go_sem, hb])) | ((first | apply wm_done | apply wt_done | apply wg_run | refine fk ?_ ?_) <;> (simp only [go_sem]))) | fail)
  simp only [List.mem_cons, List.not_mem_nil, or_false] at hz
  exact hR _ (rat [] (hK := ⟨z, rfl, by omega, by omega, rfl⟩))
theorem dEvalCast (l : List Int) (hl : Code8 l) : ACl Tryz.prog 30 [.one (.sl (byR l))] [] OneXI := by
  have ho := opn l hl.len hl.all
  refine acl_in Tryz.func30 rfl isfn_30 (Nat.le_of_ble_eq_true rfl) (fun R hR => ?_); rw [Tryz.results30] at hR; refine wg_run ?_; (simp only [Tryz.f30, go_sem])
  ((first | refine kdq [] ?_ (hc := ho) | refine kmq [] ?_ (hc := ho) | refine ktq [] ?_ (hc := ho)); rintro _ _ ⟨bs, hB, rfl, rfl⟩ <;> (simp only [go_sem]))
  have ht := l4Random bs hB 0 (by omega)
  repeat' (first | (first | (((first | apply sp1 | apply sp2 | apply sp3 | apply sp4 | apply sp5 | apply sp6 | apply sp7) <;> intro hb) <;> (simp only [go_sem, hb])) | ((first | apply wm_done | apply wt_done | apply wg_run | refine fk ?_ ?_) <;> (simp only [go_sem]))) | fail)
  ((first | refine kdq [1] ?_ (hc := ht) | refine kmq [1] ?_ (hc := ht) | refine ktq [1] ?_ (hc := ht)); rintro _ _ ⟨x, p, rfl, hx, hp, rfl⟩ <;> (simp only [go_sem]))
  have hm := l4Mutate bs hB p (by omega) x (by omega)
  repeat' (first | (first | (((first | apply sp1 | apply sp2 | apply sp3 | apply sp4 | apply sp5 | apply sp6 | apply sp7) <;> intro hb) <;> (simp only [go_sem, hb])) | ((first | apply wm_done | apply wt_done | apply wg_run | refine fk ?_ ?_) <;> (simp only [go_sem]))) | fail)
  ((first | refine kdq [1] ?_ (hc := hm) | refine kmq [1] ?_ (hc := hm) | refine ktq [1] ?_ (hc := hm)); rintro _ _ ⟨y, q, rfl, hy, hq, rfl⟩ <;> (simp only [go_sem]))
  have hf := l5Fuel bs hB q (by omega)
  repeat' (first | (first | (((first | apply sp1 | apply sp2 | apply sp3 | apply sp4 | apply sp5 | apply sp6 | apply sp7) <;> intro hb) <;> (simp only [go_sem, hb])) | ((first | apply wm_done | apply wt_done | apply wg_run | refine fk ?_ ?_) <;> (simp only [go_sem]))) | (refine wd_mix 2 [1] follows (by kernel_rfl) (by (simp only [go_sem]); first | done | rfl) ?_; (simp only [go_sem])) | fail)
  ((first | refine kdq [1] ?_ (hc := hf) | refine kmq [1] ?_ (hc := hf) | refine ktq [1] ?_ (hc := hf)); rintro _ _ ⟨z, rfl, hz0, hz1, rfl⟩ <;> (simp only [go_sem]))
  repeat' (first | (first | (((first | apply sp1 | apply sp2 | apply sp3 | apply sp4 | apply sp5 | apply sp6 | apply sp7) <;> intro hb) <;> (simp only [go_sem, hb])) | ((first | apply wm_done | apply wt_done | apply wg_run | refine fk ?_ ?_) <;> (simp only [go_sem]))) | fail)
  exact hR _ (rat [] (hK := ⟨y, z, rfl, by omega, by omega, by omega, rfl⟩))
end Go.Proofs.YtnaebafafhamjaaGreat
/- The labels of a term's casts, in the program; a draw with a label. On shadows. -/
namespace Go.Proofs.YtnaebafafhamjaaGreat
open Go.RowKit Go.Proofs.Sh Go.Proofs.Grad
set_option maxRecDepth 100000
set_option maxHeartbeats 8000000
theorem iCastLabels (t : Tm) (h : t.size < 100000000) : AFn Tryz.prog 10 [.agg (teC t)] (.one (.sl (intR t.labsV))) := by
  have hv := iCastV t
  have hca := iCasts 100000000 (by omega) t h
  unfold Tm.labsV
  cases e : t.castV
  · rw [e] at hv
    refine fn_in ?_; refine acl_in Tryz.func10 rfl isfn_10 (Nat.le_of_ble_eq_true rfl) (fun R hR => ?_); rw [Tryz.results10] at hR; refine wg_run ?_; (simp only [Tryz.f10, go_sem])
    repeat' (first | (first | (((first | apply sp1 | apply sp2 | apply sp3 | apply sp4 | apply sp5 | apply sp6 | apply sp7) <;> intro hb) <;> (simp only [go_sem, hb])) | ((first | apply wm_done | apply wt_done | apply wg_run | refine fk ?_ ?_) <;> (simp only [go_sem]))) | (first | refine cdq ?_ (hc := hv) | refine cmq ?_ (hc := hv) | refine ctq ?_ (hc := hv)); (simp only [go_sem]))
    (refine hR _ (rat [] (hK := ⟨rfl, rfl⟩)))
  · rw [e] at hv
    obtain ⟨x, rfl, hx⟩ := Tm.castV_E e
    have hn := x.labs_nodes hx
    have hcl : x.tm.castsL.length = x.labs.length := by rw [← E.labs_tm]; simp [Tm.labs]
    have hlo : labsOf x.tm.castsL = x.labs := by rw [← E.labs_tm]; rfl
    simp only []
    rw [E.labs_tm, ← hlo]
    generalize x.tm.castsL = cs at *
    refine fn_in ?_; refine acl_in Tryz.func10 rfl isfn_10 (Nat.le_of_ble_eq_true rfl) (fun R hR => ?_); rw [Tryz.results10] at hR; refine wg_run ?_; (simp only [Tryz.f10, go_sem])
    repeat' (first | (first | (((first | apply sp1 | apply sp2 | apply sp3 | apply sp4 | apply sp5 | apply sp6 | apply sp7) <;> intro hb) <;> (simp only [go_sem, hb])) | ((first | apply wm_done | apply wt_done | apply wg_run | refine fk ?_ ?_) <;> (simp only [go_sem]))) | (first | refine cdq ?_ (hc := hv) | refine cmq ?_ (hc := hv) | refine ctq ?_ (hc := hv)); (simp only [go_sem]) | (first | refine cdq ?_ (hc := hca) | refine cmq ?_ (hc := hca) | refine ctq ?_ (hc := hca)); (simp only [go_sem]) | fail)
    refine wd_for [1, 3, 10, 11, 12] (fun (x' : Nat × List Int) => [.one (.ptr 9 0 0 0), .one (match x'.2 with | [] => .sc (.slice none 0 0) | z :: m => .row 1 1 (m.length + 1)), .one (.sl (teR cs)), .one (.sc (.int .i64 cs.length)), .one (.sc (.int .i64 (x'.1 : Nat)))])
      (fun x' => match x'.2 with | [] => [⟨9, 28, .mut, [teC x.tm]⟩] | z :: m => [⟨9, 28, .mut, [teC x.tm]⟩, ⟨1, 3, .mut, intR (z :: m)⟩])
      (fun x' => x'.1 ≤ cs.length ∧ x'.2 = (labsOf cs).take x'.1) (fun x' => cs.length - x'.1) (0, []) ⟨Nat.zero_le _, rfl⟩ (hat [0] (hI := ⟨rfl, rfl⟩)) ?_
    rintro ⟨k, acc⟩ ⟨hk, hacc⟩ G hG
    simp only [] at hk hacc hG
    have hlc : (labsOf cs).length = cs.length := by simp [labsOf]
    have hal : acc.length ≤ cs.length := by
      rw [hacc]; simp only [List.length_take] at *; omega
    refine wg_run ?_
    (simp only [go_sem])
    ((first | apply sp1 | apply sp2 | apply sp3 | apply sp4 | apply sp5 | apply sp6 | apply sp7) <;> intro hb) <;> (simp only [go_sem, hb])
    · have hk1 : k < cs.length := by have := of_decide_eq_true hb; omega
      have hw1 := wrap_succ hk1 (by omega)
      have hnx : (labsOf cs).take (k + 1) = acc ++ [(teKid cs k).label] := by rw [Sh.numtake (by omega), Sh.num_labs hk1, ← hacc]
      have hcap1 : (acc.length + 1) * 8 ≤ 140737488355328 := by omega
      rcases acc with _ | ⟨z, m⟩
      all_goals
        simp only [List.length_cons, List.length_nil, List.nil_append, List.cons_append] at hcap1 hnx
      all_goals
        repeat' (first | (first | (simp only [go_sem, hb, hw1, hcap1]) | (((first | apply sp1 | apply sp2 | apply sp3 | apply sp4 | apply sp5 | apply sp6 | apply sp7) <;> intro hb) <;> (simp only [go_sem, hb, hb, hw1, hcap1])) | ((first | apply wm_done | apply wt_done | apply wg_run | refine fk ?_ ?_) <;> (simp only [go_sem, hb, hw1, hcap1]))) | ((first | refine mxq6 [] ?_ | refine mxq5 [] ?_ | refine mxq4 [] ?_ | refine mxq3 [] ?_ | refine mxq2 [] ?_ | refine mxq1 [] ?_ | refine mxq0 [] ?_ | fail); (simp only [go_sem, hb])) | fail)
      all_goals
        first
          | (refine hG (k + 1, _) _ _ ⟨by omega, hnx.symm⟩ (by simp only []; omega) (hat [0, 1] (hI := ⟨?_, ?_⟩)) <;> first | rfl | (simp only [List.length_append, List.length_cons, List.length_nil]; done) | (simp only [intR, intR_append, List.cons_append, List.nil_append, List.append_assoc]; done))
          | (refine hG (k + 1, _) _ _ ⟨by omega, hnx.symm⟩ (by simp only []; omega) (hat [0, 2] (hI := ⟨?_, ?_⟩)) <;> first | rfl | (simp only [List.length_append, List.length_cons, List.length_nil]; done) | (simp only [intR, intR_append, List.cons_append, List.nil_append, List.append_assoc]; done))
          | (refine hG (k + 1, _) _ _ ⟨by omega, hnx.symm⟩ (by simp only []; omega) (hat [0, 3] (hI := ⟨?_, ?_⟩)) <;> first | rfl | (simp only [List.length_append, List.length_cons, List.length_nil]; done) | (simp only [intR, intR_append, List.cons_append, List.nil_append, List.append_assoc]; done))
          | (refine hG (k + 1, _) _ _ ⟨by omega, hnx.symm⟩ (by simp only []; omega) (hat [0, 4] (hI := ⟨?_, ?_⟩)) <;> first | rfl | (simp only [List.length_append, List.length_cons, List.length_nil]; done) | (simp only [intR, intR_append, List.cons_append, List.nil_append, List.append_assoc]; done))
    · have hk1 : (labsOf cs).take k = labsOf cs := List.take_of_length_le (by have := of_decide_eq_false hb; omega)
      rw [hk1] at hacc
      clear hG
      rcases acc with _ | ⟨z, m⟩
      · have e0 : setL [] = [] := (setL_nil_iff []).2 rfl
        have s1 := sortNil
        have s2 := compNil
        repeat' (first | (first | (((first | apply sp1 | apply sp2 | apply sp3 | apply sp4 | apply sp5 | apply sp6 | apply sp7) <;> intro hb) <;> (simp only [go_sem, hb])) | ((first | apply wm_done | apply wt_done | apply wg_run | refine fk ?_ ?_) <;> (simp only [go_sem]))) | (first | refine cdq ?_ (hc := s1) | refine cmq ?_ (hc := s1) | refine ctq ?_ (hc := s1)); (simp only [go_sem]) | (first | refine cdq ?_ (hc := s2) | refine cmq ?_ (hc := s2) | refine ctq ?_ (hc := s2)); (simp only [go_sem]) | fail)
        (refine hR _ (rat [] (hK := ⟨?_, rfl⟩)))
        rw [← hacc, e0]; rfl
      · simp only [List.length_cons] at hal
        have s1 := sortCall (z :: m) (by simp only [List.length_cons]; omega)
        have s2 := compCall (srt (z :: m)) (by rw [srt_length]; simp only [List.length_cons]; omega)
        rw [srt_length] at s2
        simp only [List.length_cons] at s1 s2
        simp only [show Lib.compact (srt (z :: m)) = setL (z :: m) from rfl] at s2
        repeat' (first | (first | (((first | apply sp1 | apply sp2 | apply sp3 | apply sp4 | apply sp5 | apply sp6 | apply sp7) <;> intro hb) <;> (simp only [go_sem, hb])) | ((first | apply wm_done | apply wt_done | apply wg_run | refine fk ?_ ?_) <;> (simp only [go_sem]))) | ((first | refine kdq [1] ?_ (hc := s1) | refine kmq [1] ?_ (hc := s1) | refine ktq [1] ?_ (hc := s1)); rintro _ _ ⟨rfl, rfl⟩ <;> (simp only [go_sem])) | ((first | refine kdq [1] ?_ (hc := s2) | refine kmq [1] ?_ (hc := s2) | refine ktq [1] ?_ (hc := s2)); rintro _ _ ⟨rfl, rfl⟩ <;> (simp only [go_sem])) | fail)
        (refine hR _ (rat [] (hK := ⟨?_, rfl⟩)))
        rw [← hacc]
end Go.Proofs.YtnaebafafhamjaaGreat
