/- Texts of the proof, one behind another. -/
import Derived.Test.YtjmicohbnpbemaaGreatKX10
import Derived.Test.YtjmicohbnpbemaaGreatKX11
import Derived.Test.YtjmicohbnpbemaaGreatKX12
import Derived.Test.YtjmicohbnpbemaaGreatKX21
import Derived.Test.YtjmicohbnpbemaaGreatKX26
set_option linter.unusedSimpArgs false
set_option linter.unusedVariables false
/- The reference's draws of terms with casts. On shadows. -/
namespace Go.Proofs.Grad
theorem Tm.stepV_took {t : Tm} {y : E} (h : t.stepV = .took y) : y.okC = true := by
  unfold Tm.stepV at h
  split at h
  · exact E.sc_ok h
  · cases h
theorem E.size_wf (e : E) (h : e.wf = true) : e.tm.size ≤ 40 * e.nodes := by
  induction e with
  | var _ | num _ | tru | fls => simp [E.tm, nd, Tm.size, Tm.sizes, noTy, Ty.size, Ty.sizes, E.nodes]
  | lam x t a ih =>
    simp only [E.wf, Bool.and_eq_true, decide_eq_true_eq] at h
    have := T.ty_size16 h.2.1; have := ih h.2.2
    simp only [E.tm, Tm.size, Tm.sizes, noTy, Ty.size, Ty.sizes, E.nodes]; omega
  | app a b iha ihb | add a b iha ihb | less a b iha ihb | pair a b iha ihb =>
    simp only [E.wf, Bool.and_eq_true] at h
    have := iha h.1; have := ihb h.2
    simp only [E.tm, nd, Tm.size, Tm.sizes, noTy, Ty.size, Ty.sizes, E.nodes]; omega
  | ite a b c iha ihb ihc =>
    simp only [E.wf, Bool.and_eq_true] at h
    have := iha h.1; have := ihb h.2.1; have := ihc h.2.2
    simp only [E.tm, nd, Tm.size, Tm.sizes, noTy, Ty.size, Ty.sizes, E.nodes]; omega
  | fst a ih | snd a ih =>
    simp only [E.wf] at h
    have := ih h
    simp only [E.tm, nd, Tm.size, Tm.sizes, noTy, Ty.size, Ty.sizes, E.nodes]; omega
  | asc t a ih =>
    simp only [E.wf, Bool.and_eq_true, decide_eq_true_eq] at h
    have := T.ty_size16 h.1; have := ih h.2
    simp only [E.tm, Tm.size, Tm.sizes, noTy, Ty.size, Ty.sizes, E.nodes]; omega
  | cast s t l a ih =>
    simp only [E.wf, Bool.and_eq_true, decide_eq_true_eq] at h
    have := T.ty_size16 h.1.1; have := T.ty_size16 h.1.2; have := ih h.2.2.2
    simp only [E.tm, Tm.size, Tm.sizes, noTy, Ty.size, Ty.sizes, E.nodes]; omega
theorem E.size_ok {e : E} (h : e.okC = true) : e.tm.size ≤ 8000 := by
  simp only [E.okC, Bool.and_eq_true, decide_eq_true_eq] at h
  have := e.size_wf h.1
  omega
end Go.Proofs.Grad
namespace Go.Proofs.YtjmicohbnpbemaaGreat
open Go.RowKit Go.Proofs.Sh Go.Proofs.Grad
set_option maxRecDepth 100000
set_option maxHeartbeats 16000000
theorem l4Random (bs : List Int) (hB : Bs bs) (p : Nat) (hp : p < 690000000) : ACl Tryz.prog 49 [.one (.ptr 2 0 0 0)] [(⟨2, 84, .mut, [[.sl (byR bs), .sc (.int .i64 ((p : Nat) : Int))]]⟩ : Blk)] (DrawsX bs p 661000 4600000) := by
  have h0 := l3Typed bs hB p (by omega)
  refine acl_in Tryz.func49 rfl isfn_49 (Nat.le_of_ble_eq_true rfl) (fun R hR => ?_); rw [Tryz.results49] at hR; refine wg_run ?_; (simp only [Tryz.f49, go_sem])
  repeat' (first | (first | (((first | apply sp1 | apply sp2 | apply sp3 | apply sp4 | apply sp5 | apply sp6 | apply sp7) <;> intro hb) <;> (simp only [go_sem, hb])) | ((first | apply wm_done | apply wt_done | apply wg_run | refine fk ?_ ?_) <;> (simp only [go_sem]))) | fail)
  ((first | refine kdq [0] ?_ (hc := h0) | refine kmq [0] ?_ (hc := h0) | refine ktq [0] ?_ (hc := h0)); rintro _ _ ⟨e, q, rfl, he, hc, hs, hq, rfl⟩; (simp only [go_sem]))
  have hi := sInsertCasts e he hc (by omega)
  have hnd := E.nodes_tm e
  repeat' (first | (first | (((first | apply sp1 | apply sp2 | apply sp3 | apply sp4 | apply sp5 | apply sp6 | apply sp7) <;> intro hb) <;> (simp only [go_sem, hb])) | ((first | apply wm_done | apply wt_done | apply wg_run | refine fk ?_ ?_) <;> (simp only [go_sem]))) | ((first | refine kdq [] ?_ (hc := hi) | refine kmq [] ?_ (hc := hi) | refine ktq [] ?_ (hc := hi)); rintro _ _ (⟨x, t, rfl, hx, ht, rfl⟩ | ⟨rfl, rfl⟩) <;> (simp only [go_sem])) | fail)
  · ((first | refine kdq [0] ?_ (hc := pick bs hB _ (by omega) 3 (by omega) (by omega)) | refine kmq [0] ?_ (hc := pick bs hB _ (by omega) 3 (by omega) (by omega)) | refine ktq [0] ?_ (hc := pick bs hB _ (by omega) 3 (by omega) (by omega))); rintro _ _ ⟨z, rfl, hz, hz1, rfl⟩; (simp only [go_sem]))
    obtain ⟨i0, rfl⟩ := Int.eq_ofNat_of_zero_le hz
    have hi0 : i0 ≤ 2 := by omega
    clear hz1
    refine wd_for [0, 2, 3, 4, 6] (fun (y : Nat × Nat × Tm × T) => [.one (.ptr 2 0 0 0), .one (.ptr 9 1 0 0), .one (.ptr 9 2 0 0), .one (.ptr 2 3 0 0), .one (.sc (.int .i64 (y.1 : Nat)))])
      (fun y => [(⟨2, 84, .mut, [[.sl (byR bs), .sc (.int .i64 ((y.2.1 : Nat) : Int))]]⟩ : Blk), ⟨9, 28, .mut, [[.sc (.int .i64 0), .sc (.string { data := { toList := [] } }), .sc (.int .i64 0), .sc (.int .i64 0), .sc (.slice none 0 0), .sc (.int .i64 0), .sc (.slice none 0 0), .sc (.int .i64 0), .sc (.slice none 0 0)]]⟩, ⟨9, 28, .mut, [teC y.2.2.1]⟩, ⟨2, 25, .mut, [tyC y.2.2.2.ty]⟩])
      (fun y => y.1 ≤ 2 ∧ y.2.1 + y.1 * 100 ≤ q + 201 ∧ y.2.2.1.size + y.1 * 31 ≤ 4590000 ∧ y.2.2.2.depth ≤ 4) (fun y => y.1) (i0, q + 1, x, t) ⟨hi0, by first | omega | (simp only []; omega), by first | omega | (simp only []; omega), ht⟩ (hat [1, 2, 3] (hI := ⟨rfl, rfl⟩)) ?_
    clear hx ht hi h0
    rintro ⟨i, q1, x, t⟩ ⟨hi, hq1, hx, ht⟩ G hG
    simp only [] at hi hq1 hx ht
    refine wg_run ?_
    rcases i with _ | i
    · clear hG
      (simp only [go_sem])
      repeat' (first | (first | (((first | apply sp1 | apply sp2 | apply sp3 | apply sp4 | apply sp5 | apply sp6 | apply sp7) <;> intro hb) <;> (simp only [go_sem, hb])) | ((first | apply wm_done | apply wt_done | apply wg_run | refine fk ?_ ?_) <;> (simp only [go_sem]))) | fail)
      exact hR _ (rat [] (hK := ⟨x, q1, rfl, by omega, by omega, rfl⟩))
    · have d1 : decide (((i + 1 : Nat) : Int) > 0) = true := decide_eq_true (by omega)
      have hw1 : IntKind.i64.wrap (((i + 1 : Nat) : Int) - 1) = (i : Int) := by rw [IntWalk.i64_in _ (by omega)]; omega
      have hw5 : IntKind.i64.wrap (50 + ((i + 1 : Nat) : Int)) = ((51 + i : Nat) : Int) := by rw [IntWalk.i64_in _ (by omega)]; omega
      have hw6 : IntKind.i64.wrap (0 - ((51 + i : Nat) : Int)) = -((51 + i : Nat) : Int) := by rw [IntWalk.i64_in _ (by omega)]; omega
      have hts := tys 4 t ht
      (simp only [go_sem, d1])
      repeat' (first | (first | (simp only [go_sem, d1]) | (((first | apply sp1 | apply sp2 | apply sp3 | apply sp4 | apply sp5 | apply sp6 | apply sp7) <;> intro hb) <;> (simp only [go_sem, hb, d1])) | ((first | apply wm_done | apply wt_done | apply wg_run | refine fk ?_ ?_) <;> (simp only [go_sem, d1]))) | fail)
      ((first | refine kdq [0] ?_ (hc := l1BlurS bs hB t _ (by omega)) | refine kmq [0] ?_ (hc := l1BlurS bs hB t _ (by omega)) | refine ktq [0] ?_ (hc := l1BlurS bs hB t _ (by omega))); rintro _ _ ⟨u0, q2, rfl, hu0, hq2, rfl⟩; (simp only [go_sem]))
      repeat' (first | (first | (simp only [go_sem, d1]) | (((first | apply sp1 | apply sp2 | apply sp3 | apply sp4 | apply sp5 | apply sp6 | apply sp7) <;> intro hb) <;> (simp only [go_sem, hb, d1])) | ((first | apply wm_done | apply wt_done | apply wg_run | refine fk ?_ ?_) <;> (simp only [go_sem, d1]))) | fail)
      ((first | refine kdq [0] ?_ (hc := pick bs hB _ (by omega) 2 (by omega) (by omega)) | refine kmq [0] ?_ (hc := pick bs hB _ (by omega) 2 (by omega) (by omega)) | refine ktq [0] ?_ (hc := pick bs hB _ (by omega) 2 (by omega) (by omega))); rintro _ _ ⟨z2, rfl, hz2, hz2b, rfl⟩; (simp only [go_sem]))
      obtain ⟨q3, hq3⟩ : ∃ q3, q3 = q2 + 1 := ⟨_, rfl⟩
      rw [← hq3]
      have fin : ∀ (u : T), u.depth ≤ 4 → ∀ n : Int, -100 ≤ n → n ≤ 100 → (casT x t u n).1.size ≤ x.size + 31 := fun u hu n _ _ => (casT_size x ht hu n).1
      have lc : ∀ (u : T), u.depth ≤ 4 → ∀ n : Int, -100 ≤ n → n ≤ 100 → _ := fun u hu n h1 h2 => l4Cast x t u ht hu n (by omega) (by omega)
      repeat' (first | (first | (simp only [go_sem, d1]) | (((first | apply sp1 | apply sp2 | apply sp3 | apply sp4 | apply sp5 | apply sp6 | apply sp7) <;> intro hb) <;> (simp only [go_sem, hb, d1])) | ((first | apply wm_done | apply wt_done | apply wg_run | refine fk ?_ ?_) <;> (simp only [go_sem, d1]))) | fail)
      · ((first | refine kdq [0] ?_ (hc := l1Type bs hB _ (by omega)) | refine kmq [0] ?_ (hc := l1Type bs hB _ (by omega)) | refine ktq [0] ?_ (hc := l1Type bs hB _ (by omega))); rintro _ _ ⟨u, q4, rfl, hu, hq4, rfl⟩; (simp only [go_sem]))
        have hcs := sConsT t u
        repeat' (first | (first | (simp only [go_sem, d1]) | (((first | apply sp1 | apply sp2 | apply sp3 | apply sp4 | apply sp5 | apply sp6 | apply sp7) <;> intro hb) <;> (simp only [go_sem, hb, d1])) | ((first | apply wm_done | apply wt_done | apply wg_run | refine fk ?_ ?_) <;> (simp only [go_sem, d1]))) | (first | refine cdq ?_ (hc := hcs) | refine cmq ?_ (hc := hcs) | refine ctq ?_ (hc := hcs)); (simp only [go_sem]) | fail)
        · ((first | refine kdq [0] ?_ (hc := pick bs hB _ (by omega) 3 (by omega) (by omega)) | refine kmq [0] ?_ (hc := pick bs hB _ (by omega) 3 (by omega) (by omega)) | refine ktq [0] ?_ (hc := pick bs hB _ (by omega) 3 (by omega) (by omega))); rintro _ _ ⟨z3, rfl, hz3, hz3b, rfl⟩; (simp only [go_sem]))
          (simp only [go_sem, hw5])
          repeat' (first | (first | (simp only [go_sem, hw5, hw6]) | (((first | apply sp1 | apply sp2 | apply sp3 | apply sp4 | apply sp5 | apply sp6 | apply sp7) <;> intro hb) <;> (simp only [go_sem, hb, hw5, hw6])) | ((first | apply wm_done | apply wt_done | apply wg_run | refine fk ?_ ?_) <;> (simp only [go_sem, hw5, hw6]))) | (first | refine cdq ?_ (hc := lc u hu _ (by omega) (by omega)) | refine cmq ?_ (hc := lc u hu _ (by omega) (by omega)) | refine ctq ?_ (hc := lc u hu _ (by omega) (by omega))); (simp only [go_sem]) | fail)
          all_goals repeat' (first | (first | (simp only [go_sem, hw1]) | (((first | apply sp1 | apply sp2 | apply sp3 | apply sp4 | apply sp5 | apply sp6 | apply sp7) <;> intro hb) <;> (simp only [go_sem, hb, hw1])) | ((first | apply wm_done | apply wt_done | apply wg_run | refine fk ?_ ?_) <;> (simp only [go_sem, hw1]))) | fail)
          · exact hG (i, q4 + 1, (casT x t u (-((51 + i : Nat) : Int))).1, u) _ _ ⟨by first | omega | (simp only []; omega), by first | omega | (simp only []; omega), by have := fin u hu (-((51 + i : Nat) : Int)) (by omega) (by omega); first | omega | (simp only []; omega), hu⟩ (by first | omega | (simp only []; omega)) (hat [1, 2, 3] (hI := ⟨rfl, rfl⟩))
          · exact hG (i, q4 + 1, (casT x t u ((51 + i : Nat) : Int)).1, u) _ _ ⟨by first | omega | (simp only []; omega), by first | omega | (simp only []; omega), by have := fin u hu ((51 + i : Nat) : Int) (by omega) (by omega); first | omega | (simp only []; omega), hu⟩ (by first | omega | (simp only []; omega)) (hat [1, 2, 3] (hI := ⟨rfl, rfl⟩))
        · repeat' (first | (first | (simp only [go_sem, hw1]) | (((first | apply sp1 | apply sp2 | apply sp3 | apply sp4 | apply sp5 | apply sp6 | apply sp7) <;> intro hb) <;> (simp only [go_sem, hb, hw1])) | ((first | apply wm_done | apply wt_done | apply wg_run | refine fk ?_ ?_) <;> (simp only [go_sem, hw1]))) | fail)
          exact hG (i, q4, x, t) _ _ ⟨by first | omega | (simp only []; omega), by first | omega | (simp only []; omega), by first | omega | (simp only []; omega), ht⟩ (by first | omega | (simp only []; omega)) (hat [1, 2, 3] (hI := ⟨rfl, rfl⟩))
      · have hu : u0.depth ≤ 4 := by omega
        have hcs := sConsT t u0
        repeat' (first | (first | (simp only [go_sem, d1]) | (((first | apply sp1 | apply sp2 | apply sp3 | apply sp4 | apply sp5 | apply sp6 | apply sp7) <;> intro hb) <;> (simp only [go_sem, hb, d1])) | ((first | apply wm_done | apply wt_done | apply wg_run | refine fk ?_ ?_) <;> (simp only [go_sem, d1]))) | (first | refine cdq ?_ (hc := hcs) | refine cmq ?_ (hc := hcs) | refine ctq ?_ (hc := hcs)); (simp only [go_sem]) | fail)
        · ((first | refine kdq [0] ?_ (hc := pick bs hB _ (by omega) 3 (by omega) (by omega)) | refine kmq [0] ?_ (hc := pick bs hB _ (by omega) 3 (by omega) (by omega)) | refine ktq [0] ?_ (hc := pick bs hB _ (by omega) 3 (by omega) (by omega))); rintro _ _ ⟨z3, rfl, hz3, hz3b, rfl⟩; (simp only [go_sem]))
          (simp only [go_sem, hw5])
          repeat' (first | (first | (simp only [go_sem, hw5, hw6]) | (((first | apply sp1 | apply sp2 | apply sp3 | apply sp4 | apply sp5 | apply sp6 | apply sp7) <;> intro hb) <;> (simp only [go_sem, hb, hw5, hw6])) | ((first | apply wm_done | apply wt_done | apply wg_run | refine fk ?_ ?_) <;> (simp only [go_sem, hw5, hw6]))) | (first | refine cdq ?_ (hc := lc u0 hu _ (by omega) (by omega)) | refine cmq ?_ (hc := lc u0 hu _ (by omega) (by omega)) | refine ctq ?_ (hc := lc u0 hu _ (by omega) (by omega))); (simp only [go_sem]) | fail)
          all_goals repeat' (first | (first | (simp only [go_sem, hw1]) | (((first | apply sp1 | apply sp2 | apply sp3 | apply sp4 | apply sp5 | apply sp6 | apply sp7) <;> intro hb) <;> (simp only [go_sem, hb, hw1])) | ((first | apply wm_done | apply wt_done | apply wg_run | refine fk ?_ ?_) <;> (simp only [go_sem, hw1]))) | fail)
          · exact hG (i, q3 + 1, (casT x t u0 (-((51 + i : Nat) : Int))).1, u0) _ _ ⟨by first | omega | (simp only []; omega), by first | omega | (simp only []; omega), by have := fin u0 hu (-((51 + i : Nat) : Int)) (by omega) (by omega); first | omega | (simp only []; omega), hu⟩ (by first | omega | (simp only []; omega)) (hat [1, 2, 3] (hI := ⟨rfl, rfl⟩))
          · exact hG (i, q3 + 1, (casT x t u0 ((51 + i : Nat) : Int)).1, u0) _ _ ⟨by first | omega | (simp only []; omega), by first | omega | (simp only []; omega), by have := fin u0 hu ((51 + i : Nat) : Int) (by omega) (by omega); first | omega | (simp only []; omega), hu⟩ (by first | omega | (simp only []; omega)) (hat [1, 2, 3] (hI := ⟨rfl, rfl⟩))
        · repeat' (first | (first | (simp only [go_sem, hw1]) | (((first | apply sp1 | apply sp2 | apply sp3 | apply sp4 | apply sp5 | apply sp6 | apply sp7) <;> intro hb) <;> (simp only [go_sem, hb, hw1])) | ((first | apply wm_done | apply wt_done | apply wg_run | refine fk ?_ ?_) <;> (simp only [go_sem, hw1]))) | fail)
          exact hG (i, q3, x, t) _ _ ⟨by first | omega | (simp only []; omega), by first | omega | (simp only []; omega), by first | omega | (simp only []; omega), ht⟩ (by first | omega | (simp only []; omega)) (hat [1, 2, 3] (hI := ⟨rfl, rfl⟩))
  · have h6 := l2NumS 6
    repeat' (first | (first | (((first | apply sp1 | apply sp2 | apply sp3 | apply sp4 | apply sp5 | apply sp6 | apply sp7) <;> intro hb) <;> (simp only [go_sem, hb])) | ((first | apply wm_done | apply wt_done | apply wg_run | refine fk ?_ ?_) <;> (simp only [go_sem]))) | (first | refine cdq ?_ (hc := h6) | refine cmq ?_ (hc := h6) | refine ctq ?_ (hc := h6)); (simp only [go_sem]) | fail)
    exact hR _ (rat [] (hK := ⟨(E.num 6).tm, q, rfl, by simp [E.tm, Tm.size, Tm.sizes, noTy, Ty.size, Ty.sizes], by omega, rfl⟩))
theorem l4Mutate (bs : List Int) (hB : Bs bs) (p : Nat) (hp : p < 695000000) (t : Tm) (ht : t.size < 9000000) : ACl Tryz.prog 51 [.one (.ptr 2 0 0 0), .agg (teC t)] [(⟨2, 84, .mut, [[.sl (byR bs), .sc (.int .i64 ((p : Nat) : Int))]]⟩ : Blk)] (DrawsX bs p 100 (t.size + 200)) := by
  have h0 := l2Mutate bs hB p (by omega) t (by omega)
  refine acl_in Tryz.func51 rfl isfn_51 (Nat.le_of_ble_eq_true rfl) (fun R hR => ?_); rw [Tryz.results51] at hR; refine wg_run ?_; (simp only [Tryz.f51, go_sem])
  repeat' (first | (first | (((first | apply sp1 | apply sp2 | apply sp3 | apply sp4 | apply sp5 | apply sp6 | apply sp7) <;> intro hb) <;> (simp only [go_sem, hb])) | ((first | apply wm_done | apply wt_done | apply wg_run | refine fk ?_ ?_) <;> (simp only [go_sem]))) | fail)
  ((first | refine kdq [0] ?_ (hc := h0) | refine kmq [0] ?_ (hc := h0) | refine ktq [0] ?_ (hc := h0)); rintro _ _ ⟨t1, q, rfl, ht1, hq, rfl⟩; (simp only [go_sem]))
  have et := teC_eq t1
  have e : t1.size = 1 + (t1.type.size + t1.frm.size + Tm.sizes t1.kids) := by cases t1; rfl
  repeat' (first | (first | (((first | apply sp1 | apply sp2 | apply sp3 | apply sp4 | apply sp5 | apply sp6 | apply sp7) <;> intro hb) <;> (simp only [go_sem, hb])) | ((first | apply wm_done | apply wt_done | apply wg_run | refine fk ?_ ?_) <;> (simp only [go_sem]))) | fail)
  ((first | refine kdq [0] ?_ (hc := pick bs hB _ (by omega) 40 (by omega) (by omega)) | refine kmq [0] ?_ (hc := pick bs hB _ (by omega) 40 (by omega) (by omega)) | refine ktq [0] ?_ (hc := pick bs hB _ (by omega) 40 (by omega) (by omega))); rintro _ _ ⟨z, rfl, hz, hz1, rfl⟩; (simp only [go_sem]))
  repeat' (first | (first | (simp only [go_sem, et]) | (((first | apply sp1 | apply sp2 | apply sp3 | apply sp4 | apply sp5 | apply sp6 | apply sp7) <;> intro hb) <;> (simp only [go_sem, hb, et])) | ((first | apply wm_done | apply wt_done | apply wg_run | refine fk ?_ ?_) <;> (simp only [go_sem, et]))) | fail)
  · ((first | refine kdq [0] ?_ (hc := num bs hB _ (by omega) [0, 100, -9223372036854775808, 3] (by decide) (by decide)) | refine kmq [0] ?_ (hc := num bs hB _ (by omega) [0, 100, -9223372036854775808, 3] (by decide) (by decide)) | refine ktq [0] ?_ (hc := num bs hB _ (by omega) [0, 100, -9223372036854775808, 3] (by decide) (by decide))); rintro _ _ ⟨y, rfl, hy, rfl⟩; (simp only [go_sem]))
    repeat' (first | (first | (simp only [go_sem, et]) | (((first | apply sp1 | apply sp2 | apply sp3 | apply sp4 | apply sp5 | apply sp6 | apply sp7) <;> intro hb) <;> (simp only [go_sem, hb, et])) | ((first | apply wm_done | apply wt_done | apply wg_run | refine fk ?_ ?_) <;> (simp only [go_sem, et]))) | ((first | refine mxq6 [] ?_ | refine mxq5 [] ?_ | refine mxq4 [] ?_ | refine mxq3 [] ?_ | refine mxq2 [] ?_ | refine mxq1 [] ?_ | refine mxq0 [] ?_ | fail); (simp only [go_sem, et])) | fail)
    exact hR _ (rat [] (hK := ⟨.mk t1.kind t1.name t1.num t1.type t1.frm y t1.kids, q + 2, by rw [teC_eq]; rfl, by simp only [Tm.size]; omega, by omega, rfl⟩))
  · ((first | refine kdq [0] ?_ (hc := l1Type bs hB _ (by omega)) | refine kmq [0] ?_ (hc := l1Type bs hB _ (by omega)) | refine ktq [0] ?_ (hc := l1Type bs hB _ (by omega))); rintro _ _ ⟨x1, q1, rfl, hx1, hq1, rfl⟩; (simp only [go_sem]))
    have hx9 := tys 4 x1 hx1
    have hm := l1Mutate bs hB q1 (by omega) x1.ty (by rw [T.ty_size]; omega)
    repeat' (first | (first | (simp only [go_sem, et]) | (((first | apply sp1 | apply sp2 | apply sp3 | apply sp4 | apply sp5 | apply sp6 | apply sp7) <;> intro hb) <;> (simp only [go_sem, hb, et])) | ((first | apply wm_done | apply wt_done | apply wg_run | refine fk ?_ ?_) <;> (simp only [go_sem, et]))) | fail)
    ((first | refine kdq [0] ?_ (hc := hm) | refine kmq [0] ?_ (hc := hm) | refine ktq [0] ?_ (hc := hm)); rintro _ _ ⟨y, q2, rfl, hy, hq2, rfl⟩; (simp only [go_sem]))
    rw [T.ty_size] at hy
    repeat' (first | (first | (simp only [go_sem, et]) | (((first | apply sp1 | apply sp2 | apply sp3 | apply sp4 | apply sp5 | apply sp6 | apply sp7) <;> intro hb) <;> (simp only [go_sem, hb, et])) | ((first | apply wm_done | apply wt_done | apply wg_run | refine fk ?_ ?_) <;> (simp only [go_sem, et]))) | ((first | refine mxq6 [] ?_ | refine mxq5 [] ?_ | refine mxq4 [] ?_ | refine mxq3 [] ?_ | refine mxq2 [] ?_ | refine mxq1 [] ?_ | refine mxq0 [] ?_ | fail); (simp only [go_sem, et])) | fail)
    exact hR _ (rat [] (hK := ⟨.mk t1.kind t1.name t1.num t1.type y t1.label t1.kids, q2, by rw [teC_eq]; rfl, by simp only [Tm.size]; omega, by omega, rfl⟩))
  · repeat' (first | (first | (simp only [go_sem, et]) | (((first | apply sp1 | apply sp2 | apply sp3 | apply sp4 | apply sp5 | apply sp6 | apply sp7) <;> intro hb) <;> (simp only [go_sem, hb, et])) | ((first | apply wm_done | apply wt_done | apply wg_run | refine fk ?_ ?_) <;> (simp only [go_sem, et]))) | fail)
    exact hR _ (rat [] (hK := ⟨t1, q + 1, by rw [teC_eq], by omega, by omega, rfl⟩))
/-- a term, not too large -/
def OneX (r : AV) (H' : List Blk) : Prop := ∃ x : Tm, r = .agg (teC x) ∧ x.size ≤ 5000000 ∧ H' = []
/-- a term, not too large, and a number -/
def OneXI (r : AV) (H' : List Blk) : Prop := ∃ (x : Tm) (n : Int), r = .tup [.agg (teC x), .one (.sc (.int .i64 n))] ∧ x.size ≤ 5000000 ∧ -9223372036854775808 ≤ n ∧ n ≤ 9223372036854775807 ∧ H' = []
theorem l5Fuel (bs : List Int) (hB : Bs bs) (p : Nat) (hp : p < 999990000) : ACl Tryz.prog 61 [.one (.ptr 2 0 0 0)] [(⟨2, 84, .mut, [[.sl (byR bs), .sc (.int .i64 ((p : Nat) : Int))]]⟩ : Blk)] (fun r H' => ∃ z : Int, r = .one (.sc (.int .i64 z)) ∧ -1 ≤ z ∧ z ≤ 301 ∧ H' = [(⟨2, 84, .mut, [[.sl (byR bs), .sc (.int .i64 ((p + 1 : Nat) : Int))]]⟩ : Blk)]) := by
  have h1 := num bs hB p (by omega) [100, 200, 60, 3, 0, 300, 301, -1] (by decide) (by decide)
  refine acl_in Tryz.func61 rfl isfn_61 (Nat.le_of_ble_eq_true rfl) (fun R hR => ?_); rw [Tryz.results61] at hR; refine wg_run ?_; (simp only [Tryz.f61, go_sem])
  repeat' (first | (first | (((first | apply sp1 | apply sp2 | apply sp3 | apply sp4 | apply sp5 | apply sp6 | apply sp7) <;> intro hb) <;> (simp only [go_sem, hb])) | ((first | apply wm_done | apply wt_done | apply wg_run | refine fk ?_ ?_) <;> (simp only [go_sem]))) | fail)
  ((first | refine kdq [0] ?_ (hc := h1) | refine kmq [0] ?_ (hc := h1) | refine ktq [0] ?_ (hc := h1)); rintro _ _ ⟨z, rfl, hz, rfl⟩; (simp only [go_sem]))
  repeat' (first | (first | (((first | apply sp1 | apply sp2 | apply sp3 | apply sp4 | apply sp5 | apply sp6 | apply sp7) <;> intro hb) <;> (simp only [go_sem, hb])) | ((first | apply wm_done | apply wt_done | apply wg_run | refine fk ?_ ?_) <;> (simp only [go_sem]))) | fail)
  simp only [List.mem_cons, List.not_mem_nil, or_false] at hz
  exact hR _ (rat [] (hK := ⟨z, rfl, by omega, by omega, rfl⟩))
theorem dEvalCast (l : List Int) (hl : Code8 l) : ACl Tryz.prog 27 [.one (.sl (byR l))] [] OneXI := by
  have ho := opn l hl.len hl.all
  refine acl_in Tryz.func27 rfl isfn_27 (Nat.le_of_ble_eq_true rfl) (fun R hR => ?_); rw [Tryz.results27] at hR; refine wg_run ?_; (simp only [Tryz.f27, go_sem])
  ((first | refine kdq [] ?_ (hc := ho) | refine kmq [] ?_ (hc := ho) | refine ktq [] ?_ (hc := ho)); rintro _ _ ⟨bs, hB, rfl, rfl⟩ <;> (simp only [go_sem]))
  have ht := l4Random bs hB 0 (by omega)
  repeat' (first | (first | (((first | apply sp1 | apply sp2 | apply sp3 | apply sp4 | apply sp5 | apply sp6 | apply sp7) <;> intro hb) <;> (simp only [go_sem, hb])) | ((first | apply wm_done | apply wt_done | apply wg_run | refine fk ?_ ?_) <;> (simp only [go_sem]))) | fail)
  ((first | refine kdq [1] ?_ (hc := ht) | refine kmq [1] ?_ (hc := ht) | refine ktq [1] ?_ (hc := ht)); rintro _ _ ⟨x, p, rfl, hx, hp, rfl⟩ <;> (simp only [go_sem]))
  have hm := l4Mutate bs hB p (by omega) x (by omega)
  repeat' (first | (first | (((first | apply sp1 | apply sp2 | apply sp3 | apply sp4 | apply sp5 | apply sp6 | apply sp7) <;> intro hb) <;> (simp only [go_sem, hb])) | ((first | apply wm_done | apply wt_done | apply wg_run | refine fk ?_ ?_) <;> (simp only [go_sem]))) | fail)
  ((first | refine kdq [1] ?_ (hc := hm) | refine kmq [1] ?_ (hc := hm) | refine ktq [1] ?_ (hc := hm)); rintro _ _ ⟨y, q, rfl, hy, hq, rfl⟩ <;> (simp only [go_sem]))
  have hf := l5Fuel bs hB q (by omega)
  repeat' (first | (first | (((first | apply sp1 | apply sp2 | apply sp3 | apply sp4 | apply sp5 | apply sp6 | apply sp7) <;> intro hb) <;> (simp only [go_sem, hb])) | ((first | apply wm_done | apply wt_done | apply wg_run | refine fk ?_ ?_) <;> (simp only [go_sem]))) | (refine wd_mix 2 [1] follows (by kernel_rfl) (by (simp only [go_sem]); first | done | rfl) ?_; (simp only [go_sem])) | fail)
  ((first | refine kdq [1] ?_ (hc := hf) | refine kmq [1] ?_ (hc := hf) | refine ktq [1] ?_ (hc := hf)); rintro _ _ ⟨z, rfl, hz0, hz1, rfl⟩ <;> (simp only [go_sem]))
  repeat' (first | (first | (((first | apply sp1 | apply sp2 | apply sp3 | apply sp4 | apply sp5 | apply sp6 | apply sp7) <;> intro hb) <;> (simp only [go_sem, hb])) | ((first | apply wm_done | apply wt_done | apply wg_run | refine fk ?_ ?_) <;> (simp only [go_sem]))) | fail)
  exact hR _ (rat [] (hK := ⟨y, z, rfl, by omega, by omega, by omega, rfl⟩))
theorem dStepCast (l : List Int) (hl : Code8 l) : ACl Tryz.prog 20 [.one (.sl (byR l))] [] OneX := by
  have ho := opn l hl.len hl.all
  refine acl_in Tryz.func20 rfl isfn_20 (Nat.le_of_ble_eq_true rfl) (fun R hR => ?_); rw [Tryz.results20] at hR; refine wg_run ?_; (simp only [Tryz.f20, go_sem])
  ((first | refine kdq [] ?_ (hc := ho) | refine kmq [] ?_ (hc := ho) | refine ktq [] ?_ (hc := ho)); rintro _ _ ⟨bs, hB, rfl, rfl⟩ <;> (simp only [go_sem]))
  have ht := l4Random bs hB 0 (by omega)
  repeat' (first | (first | (((first | apply sp1 | apply sp2 | apply sp3 | apply sp4 | apply sp5 | apply sp6 | apply sp7) <;> intro hb) <;> (simp only [go_sem, hb])) | ((first | apply wm_done | apply wt_done | apply wg_run | refine fk ?_ ?_) <;> (simp only [go_sem]))) | fail)
  ((first | refine kdq [1] ?_ (hc := ht) | refine kmq [1] ?_ (hc := ht) | refine ktq [1] ?_ (hc := ht)); rintro _ _ ⟨x, p, rfl, hx, hp, rfl⟩ <;> (simp only [go_sem]))
  have hk := pick bs hB p (by omega) 5 (by omega) (by omega)
  repeat' (first | (first | (((first | apply sp1 | apply sp2 | apply sp3 | apply sp4 | apply sp5 | apply sp6 | apply sp7) <;> intro hb) <;> (simp only [go_sem, hb])) | ((first | apply wm_done | apply wt_done | apply wg_run | refine fk ?_ ?_) <;> (simp only [go_sem]))) | fail)
  ((first | refine kdq [1] ?_ (hc := hk) | refine kmq [1] ?_ (hc := hk) | refine ktq [1] ?_ (hc := hk)); rintro _ _ ⟨z, rfl, hz, hz1, rfl⟩ <;> (simp only [go_sem]))
  obtain ⟨i0, rfl⟩ := Int.eq_ofNat_of_zero_le hz
  refine wd_for [2, 3, 4, 5] (fun (y : Nat × Tm) => [.one (.ptr 9 0 0 0), .one (.ptr 2 1 0 0), .one (.ptr 9 2 0 0), .one (.sc (.int .i64 (y.1 : Nat)))])
    (fun y => [⟨9, 28, .mut, [[.sc (.int .i64 0), .sc (.string { data := { toList := [] } }), .sc (.int .i64 0), .sc (.int .i64 0), .sc (.slice none 0 0), .sc (.int .i64 0), .sc (.slice none 0 0), .sc (.int .i64 0), .sc (.slice none 0 0)]]⟩, (⟨2, 84, .mut, [[.sl (byR bs), .sc (.int .i64 ((p + 1 : Nat) : Int))]]⟩ : Blk), ⟨9, 28, .mut, [teC y.2]⟩])
    (fun y => y.1 ≤ 4 ∧ y.2.size ≤ 4600000) (fun y => y.1) (i0, x) ⟨by first | omega | (simp only []; omega), by first | omega | (simp only []; omega)⟩ (hat [0, 1, 2] (hI := ⟨rfl, rfl⟩)) ?_
  clear hx ht hk hz hz1
  rintro ⟨i, x⟩ ⟨hi, hx⟩ G hG
  simp only [] at hi hx
  refine wg_run ?_
  rcases i with _ | i
  · clear hG
    have hm := l4Mutate bs hB (p + 1) (by omega) x (by omega)
    (simp only [go_sem])
    repeat' (first | (first | (((first | apply sp1 | apply sp2 | apply sp3 | apply sp4 | apply sp5 | apply sp6 | apply sp7) <;> intro hb) <;> (simp only [go_sem, hb])) | ((first | apply wm_done | apply wt_done | apply wg_run | refine fk ?_ ?_) <;> (simp only [go_sem]))) | fail)
    ((first | refine kdq [1] ?_ (hc := hm) | refine kmq [1] ?_ (hc := hm) | refine ktq [1] ?_ (hc := hm)); rintro _ _ ⟨y, q, rfl, hy, hq, rfl⟩ <;> (simp only [go_sem]))
    repeat' (first | (first | (((first | apply sp1 | apply sp2 | apply sp3 | apply sp4 | apply sp5 | apply sp6 | apply sp7) <;> intro hb) <;> (simp only [go_sem, hb])) | ((first | apply wm_done | apply wt_done | apply wg_run | refine fk ?_ ?_) <;> (simp only [go_sem]))) | fail)
    exact hR _ (rat [] (hK := ⟨y, rfl, by omega, rfl⟩))
  · have d1 : decide (((i + 1 : Nat) : Int) > 0) = true := decide_eq_true (by omega)
    have hw1 : IntKind.i64.wrap (((i + 1 : Nat) : Int) - 1) = (i : Int) := by rw [IntWalk.i64_in _ (by omega)]; omega
    have hst := sStepV x (by omega)
    cases es : x.stepV with
    | took y =>
      have hy := E.size_ok (Tm.stepV_took es)
      rw [es] at hst
      simp only [scT, SC.tm, SC.code, SC.lab] at hst
      (simp only [go_sem, d1])
      repeat' (first | (first | (simp only [go_sem, hw1]) | (((first | apply sp1 | apply sp2 | apply sp3 | apply sp4 | apply sp5 | apply sp6 | apply sp7) <;> intro hb) <;> (simp only [go_sem, hb, hw1])) | ((first | apply wm_done | apply wt_done | apply wg_run | refine fk ?_ ?_) <;> (simp only [go_sem, hw1]))) | (first | refine cdq ?_ (hc := hst) | refine cmq ?_ (hc := hst) | refine ctq ?_ (hc := hst)); (simp only [go_sem]) | fail)
      exact hG (i, y.tm) _ _ ⟨by first | omega | (simp only []; omega), by first | omega | (simp only []; omega)⟩ (by first | omega | (simp only []; omega)) (hat [0, 1, 2] (hI := ⟨rfl, rfl⟩))
    | _ =>
      rw [es] at hst
      simp only [scT, SC.tm, SC.code, SC.lab, tm0, noTy] at hst
      (simp only [go_sem, d1])
      repeat' (first | (first | (simp only [go_sem, hw1]) | (((first | apply sp1 | apply sp2 | apply sp3 | apply sp4 | apply sp5 | apply sp6 | apply sp7) <;> intro hb) <;> (simp only [go_sem, hb, hw1])) | ((first | apply wm_done | apply wt_done | apply wg_run | refine fk ?_ ?_) <;> (simp only [go_sem, hw1]))) | (first | refine cdq ?_ (hc := hst) | refine cmq ?_ (hc := hst) | refine ctq ?_ (hc := hst)); (simp only [go_sem]) | fail)
      exact hG (i, x) _ _ ⟨by first | omega | (simp only []; omega), by first | omega | (simp only []; omega)⟩ (by first | omega | (simp only []; omega)) (hat [0, 1, 2] (hI := ⟨rfl, rfl⟩))
end Go.Proofs.YtjmicohbnpbemaaGreat
/- Terms: sameness, in the program; on shadows. -/
namespace Go.Proofs.YtjmicohbnpbemaaGreat
open Go.RowKit Go.Proofs.Sh Go.Proofs.Grad
set_option maxRecDepth 100000
set_option maxHeartbeats 8000000
theorem iTmSame (n : Nat) (hn : n ≤ 4611686018427387904) : ∀ a b : Tm, a.size < n → AFn Tryz.prog 23 [.agg (teC a), .agg (teC b)] (.one (.sc (.bool (a.same b)))) := by
  induction n with
  | zero => intro a b h; omega
  | succ n ih =>
    intro a b h
    have hl := telen_lt a
    have hk : ∀ k, k < a.kids.length → k < b.kids.length → AFn Tryz.prog 23 [.agg (teC (teKid a.kids k)), .agg (teC (teKid b.kids k))] (.one (.sc (.bool ((teKid a.kids k).same (teKid b.kids k))))) := fun k h1 h2 => ih (by omega) _ _ (by have := teKid_lt h1; omega)
    have hf := teEqFunc _ Tm.same a.kids b.kids (by omega) hk
    have h1 := iSame 4611686018427387904 (by omega) a.type b.type (by cases a; simp only [Tm.size, Tm.type] at *; omega)
    have h2 := iSame 4611686018427387904 (by omega) a.frm b.frm (by cases a; simp only [Tm.size, Tm.frm] at *; omega)
    clear hk ih
    have e : a.same b = (a.kind == b.kind && (a.name.toList == b.name.toList && (a.num == b.num && (a.type.same b.type && (a.frm.same b.frm && (a.label == b.label && teall2 Tm.same a.kids b.kids)))))) := by
      cases a; cases b; rw [← tesames_all2]; simp only [Tm.same, Tm.kind, Tm.name, Tm.num, Tm.type, Tm.frm, Tm.label, Tm.kids, Bool.and_assoc]
    rw [e]
    refine fn_in ?_; refine acl_in Tryz.func23 rfl isfn_23 (Nat.le_of_ble_eq_true rfl) (fun R hR => ?_); rw [Tryz.results23] at hR; refine wg_run ?_; (simp only [Tryz.f23, go_sem])
    repeat' (first | (first | (((first | apply sp1 | apply sp2 | apply sp3 | apply sp4 | apply sp5 | apply sp6 | apply sp7) <;> intro hb) <;> (simp only [go_sem, hb])) | ((first | apply wm_done | apply wt_done | apply wg_run | refine fk ?_ ?_) <;> (simp only [go_sem]))) | (first | refine cdq ?_ (hc := h1) | refine cmq ?_ (hc := h1) | refine ctq ?_ (hc := h1)); (simp only [go_sem]) | (first | refine cdq ?_ (hc := h2) | refine cmq ?_ (hc := h2) | refine ctq ?_ (hc := h2)); (simp only [go_sem]) | (first | refine cdq ?_ (hc := hf) | refine cmq ?_ (hc := hf) | refine ctq ?_ (hc := hf)); (simp only [go_sem]) | ((first | refine mxq6 [] ?_ | refine mxq5 [] ?_ | refine mxq4 [] ?_ | refine mxq3 [] ?_ | refine mxq2 [] ?_ | refine mxq1 [] ?_ | refine mxq0 [] ?_ | fail); (simp only [go_sem])))
    all_goals (refine hR _ (rat [] (hK := ⟨?_, rfl⟩)))
    all_goals (clear hR h1 h2 hf; simp_all)
end Go.Proofs.YtjmicohbnpbemaaGreat
/- Laws of evaluation: fuel, steps, contexts. No program, no world. -/
namespace Go.Proofs.Grad
def SC.isTook : SC → Bool | .took _ => true | _ => false
theorem E.evI_more (k m : Nat) : ∀ (e : E) (n : Nat), (e.evI k n).1.isTook = false → e.evI (k + m) n = e.evI k n := by
  induction k with
  | zero =>
    intro e n h
    rw [Nat.zero_add]
    cases m with
    | zero => rfl
    | succ m =>
      simp only [E.evI] at h ⊢
      split
      · rename_i x hx; rw [hx] at h; cases h
      · rfl
  | succ k ih =>
    intro e n h
    rw [show k + 1 + m = (k + m) + 1 by omega]
    simp only [E.evI] at h ⊢
    split
    · rename_i x hx
      rw [hx] at h
      exact ih x (n + 1) h
    · rfl
theorem E.evI_tk {e x : E} (h : e.sc = .took x) (k n : Nat) : e.evI (k + 1) n = ((x.evI k n).1, (x.evI k n).2 + 1) := by
  simp only [E.evI, h]
  exact E.evI_add k x n 1
theorem E.okC_ite {e : E} (h : (E.ite .tru e e).okC = true) : e.okC = true := by
  simp only [E.okC, E.wf, E.noA, E.depth, E.nodes, Bool.and_eq_true, decide_eq_true_eq] at *
  have h1 := of_decide_eq_true h.2.2.1; have h2 := of_decide_eq_true h.2.2.2
  exact ⟨h.1.2.1, h.2.1.2.1, by omega, by omega⟩
theorem E.sc_ite {e : E} (h : e.okC = true) : (E.ite .tru e e).sc = .took e := by
  simp only [E.sc, E.val, E.step, ruleIte, h]
/-- a context in which a term is evaluated, and which then gives it back -/
structure Wrap (W : E → E) : Prop where
  nv : ∀ e, (W e).val = false
  back : ∀ e, e.val = true → (W e).step = .took e
  go : ∀ e, e.val = false → (W e).step = e.step.map W
  ok : ∀ e, (W e).okC = true → e.okC = true
theorem E.evI_wrap {W : E → E} (hW : Wrap W) (k : Nat) : ∀ (e : E) (n n' : Nat), e.okC = true → (e.evI k n').1.isTook = false → ((W e).evI (k + 1) n).1 = .large ∨ ((W e).evI (k + 1) n).1 = (e.evI k n').1 := by
  induction k with
  | zero =>
    intro e n n' ho h
    cases hv : e.val with
    | true =>
      have hs : (W e).sc = .took e := by simp only [E.sc, hW.nv, hW.back e hv, ho]
      right
      rw [E.evI_tk hs]
      simp [E.evI, E.sc, hv]
    | false =>
      have hs := hW.go e hv
      simp only [E.evI, E.sc, hv] at h ⊢
      simp only [hW.nv, hs]
      cases he : e.step with
      | took y =>
        rw [he] at h
        simp only [SR.map] at h ⊢
        cases hy : y.okC with
        | true => rw [hy] at h; cases h
        | false =>
          have : (W y).okC = false := by
            cases hc : (W y).okC with
            | false => rfl
            | true => have := hW.ok y hc; rw [hy] at this; cases this
          simp only [this]
          left; trivial
      | blame l => right; simp only [SR.map]
      | stuck => right; simp only [SR.map]
  | succ k ih =>
    intro e n n' ho h
    cases hv : e.val with
    | true =>
      have hs : (W e).sc = .took e := by simp only [E.sc, hW.nv, hW.back e hv, ho]
      have hs2 : e.sc = .value e := by simp only [E.sc, hv]
      right
      rw [E.evI_tk hs]
      simp only [E.evI, hs2]
    | false =>
      have hs := hW.go e hv
      cases he : e.step with
      | took y =>
        rw [he] at hs
        simp only [SR.map] at hs
        cases hy : y.okC with
        | true =>
          have h1 : e.sc = .took y := by simp only [E.sc, hv, he, hy]
          rw [E.evI_tk h1] at h ⊢
          simp only [] at h
          cases hwy : (W y).okC with
          | true =>
            have h2 : (W e).sc = .took (W y) := by simp only [E.sc, hW.nv, hs, hwy]
            rw [E.evI_tk h2]
            exact ih y n n' hy h
          | false =>
            have h2 : (W e).sc = .large := by simp only [E.sc, hW.nv, hs, hwy]
            left
            simp only [E.evI, h2]
        | false =>
          have hwy : (W y).okC = false := by
            cases hc : (W y).okC with
            | false => rfl
            | true => have := hW.ok y hc; rw [hy] at this; cases this
          have h2 : (W e).sc = .large := by simp only [E.sc, hW.nv, hs, hwy]
          left
          simp only [E.evI, h2]
      | blame l =>
        rw [he] at hs
        simp only [SR.map] at hs
        have h1 : e.sc = .blame l := by simp only [E.sc, hv, he]
        have h2 : (W e).sc = .blame l := by simp only [E.sc, hW.nv, hs]
        right
        simp only [E.evI, h1, h2]
      | stuck =>
        rw [he] at hs
        simp only [SR.map] at hs
        have h1 : e.sc = .stuck := by simp only [E.sc, hv, he]
        have h2 : (W e).sc = .stuck := by simp only [E.sc, hW.nv, hs]
        right
        simp only [E.evI, h1, h2]
theorem SR.map_map (r : SR) (f g : E → E) : (r.map f).map g = r.map (fun e => g (f e)) := by cases r <;> rfl
theorem wrap_part : Wrap (fun e => .snd (.pair (.num 4) e)) where
  nv e := rfl
  back e h := by simp only [E.step, E.val, h, ruleSnd]; rfl
  go e h := by simp only [E.step, E.val, h, SR.map_map]; rfl
  ok e h := by
    simp only [E.okC, E.wf, E.noA, E.depth, E.nodes, Bool.and_eq_true, decide_eq_true_eq] at *
    have h1 := of_decide_eq_true h.2.2.1; have h2 := of_decide_eq_true h.2.2.2
    exact ⟨h.1.2, h.2.1.2, by omega, by omega⟩
theorem wrap_id (q : UInt8) (t : T) : Wrap (fun e => .app (.lam q t (.var q)) e) where
  nv e := rfl
  back e h := by simp only [E.step, E.val, h, ruleApp, E.subst, beq_self_eq_true]
  go e h := by simp only [E.step, E.val, h]
  ok e h := by
    simp only [E.okC, E.wf, E.noA, E.depth, E.nodes, Bool.and_eq_true, decide_eq_true_eq] at *
    have h1 := of_decide_eq_true h.2.2.1; have h2 := of_decide_eq_true h.2.2.2
    exact ⟨h.1.2, h.2.1.2, by omega, by omega⟩
/-! terms as they come -/
theorem Tm.evalV_more {t : Tm} {f j : Int} (h0 : 0 ≤ f) (hj : 0 ≤ j) (h9 : f + j ≤ 300) (h : (t.evalV f).isTook = false) : t.evalV (f + j) = t.evalV f ∧ t.countV (f + j) = t.countV f ∧ ((t.countV f : Nat) : Int) ≤ f := by
  cases hc : t.castV with
  | false => simp only [Tm.evalV_bad hc, Tm.countV_bad hc]; exact ⟨trivial, trivial, by omega⟩
  | true =>
    obtain ⟨e, rfl, ho⟩ := Tm.castV_E hc
    obtain ⟨k, rfl⟩ := Int.eq_ofNat_of_zero_le h0
    obtain ⟨m, rfl⟩ := Int.eq_ofNat_of_zero_le hj
    have e1 : ((k : Int) + (m : Int)) = ((k + m : Nat) : Int) := by omega
    rw [Tm.evalV_E ho k (by omega)] at h
    rw [e1, Tm.evalV_E ho k (by omega), Tm.evalV_E ho (k + m) (by omega), Tm.countV_E ho k (by omega), Tm.countV_E ho (k + m) (by omega), E.evI_more k m e 0 h]
    have := E.evI_steps k e 0
    exact ⟨rfl, rfl, by omega⟩
theorem Tm.stepV_tookE {t : Tm} {y : E} (h : t.stepV = .took y) : ∃ e : E, e.tm = t ∧ e.okC = true ∧ e.sc = .took y := by
  cases hc : t.castV with
  | false => rw [Tm.stepV_bad hc] at h; cases h
  | true =>
    obtain ⟨e, rfl, ho⟩ := Tm.castV_E hc
    rw [Tm.stepV_E ho] at h
    exact ⟨e, rfl, ho, h⟩
theorem Tm.evalV_step {t : Tm} {y : E} {f : Int} (h : t.stepV = .took y) (h1 : 1 ≤ f) (h9 : f ≤ 300) : y.tm.evalV (f - 1) = t.evalV f ∧ t.countV f = y.tm.countV (f - 1) + 1 := by
  obtain ⟨e, rfl, ho, hs⟩ := Tm.stepV_tookE h
  obtain ⟨k, rfl⟩ : ∃ k : Nat, f = ((k + 1 : Nat) : Int) := ⟨(f - 1).toNat, by omega⟩
  have e1 : ((k + 1 : Nat) : Int) - 1 = (k : Int) := by omega
  have hy := E.sc_ok hs
  rw [e1, Tm.evalV_E hy k (by omega), Tm.evalV_E ho (k + 1) (by omega), Tm.countV_E ho (k + 1) (by omega), Tm.countV_E hy k (by omega), E.evI_tk hs]
  exact ⟨rfl, rfl⟩
theorem Tm.evalV_ite {t : Tm} {f : Int} (h : (nd 9 [E.tru.tm, t, t]).castV = true) (h0 : 0 ≤ f) (h9 : f < 300) : (nd 9 [E.tru.tm, t, t]).evalV (f + 1) = t.evalV f ∧ (nd 9 [E.tru.tm, t, t]).countV (f + 1) = t.countV f + 1 := by
  obtain ⟨x, hx, ho⟩ := Tm.castV_E h
  cases x <;> simp only [E.tm, nd, Tm.mk.injEq, List.cons.injEq, List.cons_ne_nil, reduceCtorEq, false_and, and_false, true_and, and_true] at hx <;> (try (exfalso; omega))
  rename_i a b c
  obtain ⟨ha, hb, hc⟩ := hx
  subst hb
  have hbc := E.tm_inj _ _ hc
  subst hbc
  have : a = .tru := E.tm_inj _ _ (by rw [ha]; rfl)
  subst this
  have hok := E.okC_ite ho
  obtain ⟨k, rfl⟩ := Int.eq_ofNat_of_zero_le h0
  have e1 : ((k : Nat) : Int) + 1 = ((k + 1 : Nat) : Int) := by omega
  have e2 : nd 9 [E.tru.tm, c.tm, c.tm] = (E.ite .tru c c).tm := rfl
  rw [e1, e2, Tm.evalV_E hok k (by omega), Tm.evalV_E ho (k + 1) (by omega), Tm.countV_E ho (k + 1) (by omega), Tm.countV_E hok k (by omega), E.evI_tk (E.sc_ite hok)]
  exact ⟨rfl, rfl⟩
theorem evalV_wrap {W : E → E} (hW : Wrap W) {e : E} (ho : (W e).okC = true) {f : Int} (h0 : 0 ≤ f) (h9 : f < 300) (h : (e.tm.evalV f).isTook = false) : (W e).tm.evalV (f + 1) = .large ∨ (W e).tm.evalV (f + 1) = e.tm.evalV f := by
  have hok := hW.ok e ho
  obtain ⟨k, rfl⟩ := Int.eq_ofNat_of_zero_le h0
  have e1 : ((k : Nat) : Int) + 1 = ((k + 1 : Nat) : Int) := by omega
  rw [Tm.evalV_E hok k (by omega)] at h ⊢
  rw [e1, Tm.evalV_E ho (k + 1) (by omega)]
  exact E.evI_wrap hW k e 0 0 hok h
theorem Tm.evalV_part {t : Tm} {f : Int} (h : (nd 12 [nd 10 [(E.num 4).tm, t]]).castV = true) (h0 : 0 ≤ f) (h9 : f < 300) (hn : (t.evalV f).isTook = false) : (nd 12 [nd 10 [(E.num 4).tm, t]]).evalV (f + 1) = .large ∨ (nd 12 [nd 10 [(E.num 4).tm, t]]).evalV (f + 1) = t.evalV f := by
  obtain ⟨x, hx, ho⟩ := Tm.castV_E h
  cases x <;> simp only [E.tm, nd, Tm.mk.injEq, List.cons.injEq, List.cons_ne_nil, reduceCtorEq, false_and, and_false, true_and, and_true] at hx <;> (try (exfalso; omega))
  rename_i p
  cases p <;> simp only [E.tm, nd, Tm.mk.injEq, List.cons.injEq, List.cons_ne_nil, reduceCtorEq, false_and, and_false, true_and, and_true] at hx <;> (try (exfalso; omega))
  rename_i a b
  obtain ⟨ha, hb⟩ := hx
  subst hb
  have : a = .num 4 := E.tm_inj _ _ (by rw [ha]; rfl)
  subst this
  exact evalV_wrap wrap_part ho h0 h9 hn
end Go.Proofs.Grad
/- What laws of evaluation need: sameness of results. On shadows. -/
namespace Go.Proofs.Grad
theorem E.evI_okC (k : Nat) : ∀ (e : E) (n : Nat), e.okC = true → ∀ y, (e.evI k n).1 = .value y → y.okC = true := by
  have one : ∀ e : E, e.okC = true → ∀ y, e.sc = .value y → y.okC = true := by
    intro e ho y h
    unfold E.sc at h
    split at h
    · cases h; exact ho
    · split at h
      · split at h <;> cases h
      · cases h
      · cases h
  induction k with
  | zero => intro e n ho y h; exact one e ho y h
  | succ k ih =>
    intro e n ho y h
    simp only [E.evI] at h
    split at h
    · rename_i x hx; exact ih x (n + 1) (E.sc_ok hx) y h
    · exact one e ho y h
theorem tm0_size : tm0.size ≤ 8000 := by simp [tm0, Tm.size, Tm.sizes, noTy, Ty.size, Ty.sizes]
theorem SC.etm_size {r : SC} (h : ∀ y, r = .value y → y.okC = true) : r.etm.size ≤ 8000 := by
  cases r with
  | value y => exact E.size_ok (h y rfl)
  | _ => exact tm0_size
theorem Tm.evalV_size (t : Tm) (f : Int) : (t.evalV f).etm.size ≤ 8000 := by
  refine SC.etm_size fun y h => ?_
  cases hc : t.castV with
  | false => rw [Tm.evalV_bad hc] at h; cases h
  | true =>
    obtain ⟨e, rfl, ho⟩ := Tm.castV_E hc
    cases hb : (decide (0 ≤ f) && decide (f ≤ 300)) with
    | false => rw [Tm.evalV_off _ hb] at h; cases h
    | true =>
      simp only [Bool.and_eq_true, decide_eq_true_eq] at hb
      obtain ⟨k, rfl⟩ := Int.eq_ofNat_of_zero_le hb.1
      rw [Tm.evalV_E ho k (by omega)] at h
      exact E.evI_okC k e 0 ho y h
theorem Tm.stepV_size (t : Tm) : t.stepV.tm.size ≤ 8000 := by
  cases hc : t.castV with
  | false => rw [Tm.stepV_bad hc]; exact tm0_size
  | true =>
    obtain ⟨e, rfl, ho⟩ := Tm.castV_E hc
    rw [Tm.stepV_E ho]
    cases hs : e.sc with
    | value y =>
      unfold E.sc at hs
      split at hs
      · cases hs; exact E.size_ok ho
      · split at hs
        · split at hs <;> cases hs
        · cases hs
        · cases hs
    | took y => exact E.size_ok (E.sc_ok hs)
    | _ => exact tm0_size
end Go.Proofs.Grad
namespace Go.Proofs.YtjmicohbnpbemaaGreat
open Go.RowKit Go.Proofs.Sh Go.Proofs.Grad
set_option maxRecDepth 100000
set_option maxHeartbeats 8000000
theorem iTmRefl (t : Tm) (h : t.size < 100000000) : AFn Tryz.prog 23 [.agg (teC t), .agg (teC t)] (.one (.sc (.bool true))) := by
  have := iTmSame 4611686018427387904 (by omega) t t (by omega)
  rwa [Tm.same_refl] at this
end Go.Proofs.YtjmicohbnpbemaaGreat
/- Laws of evaluation: more fuel; a step ahead. On shadows. -/
namespace Go.Proofs.YtjmicohbnpbemaaGreat
open Go.RowKit Go.Proofs.Sh Go.Proofs.Grad
set_option maxRecDepth 100000
set_option maxHeartbeats 16000000
theorem lEvalFuel (l m : List Int) (hc : ∀ k, 0 ≤ byte l k ∧ byte l k < 256) (_hm : ∀ k, 0 ≤ byte m k ∧ byte m k < 256) : AFn Tryz.prog 6 [.one (.sl (byR l)), .one (.sl (byR m))] (.one (.sc (.bool true))) := by
  by_cases hlen : 1048576 < l.length
  · have hg : decide (((l.length : Nat) : Int) > 1048576) = true := by simp; omega
    refine fn_in ?_; refine acl_in Tryz.func6 rfl isfn_6 (Nat.le_of_ble_eq_true rfl) (fun R hR => ?_); rw [Tryz.results6] at hR; refine wg_run ?_; (simp only [Tryz.f6, go_sem, hg])
    (refine hR _ (rat [] (hK := ⟨rfl, rfl⟩)))
  · have hg : decide (((l.length : Nat) : Int) > 1048576) = false := by simp; omega
    by_cases hlen2 : 1048576 < m.length
    · have hg2 : decide (((m.length : Nat) : Int) > 1048576) = true := by simp; omega
      refine fn_in ?_; refine acl_in Tryz.func6 rfl isfn_6 (Nat.le_of_ble_eq_true rfl) (fun R hR => ?_); rw [Tryz.results6] at hR; refine wg_run ?_; (simp only [Tryz.f6, go_sem, hg, hg2])
      (refine hR _ (rat [] (hK := ⟨rfl, rfl⟩)))
    · have hg2 : decide (((m.length : Nat) : Int) > 1048576) = false := by simp; omega
      have hd := dEvalCast l ⟨by omega, hc⟩
      refine fn_in ?_; refine acl_in Tryz.func6 rfl isfn_6 (Nat.le_of_ble_eq_true rfl) (fun R hR => ?_); rw [Tryz.results6] at hR; refine wg_run ?_; (simp only [Tryz.f6, go_sem, hg, hg2])
      ((first | refine kdq [] ?_ (hc := hd) | refine kmq [] ?_ (hc := hd) | refine ktq [] ?_ (hc := hd)); rintro _ _ ⟨x, f, rfl, hx, hf0, hf9, rfl⟩ <;> (simp only [go_sem]))
      have h1 := iEvalV x f
      have h2 := sEvalV x (by omega) f
      have hsm := iTmRefl (x.evalV f).etm (by have := x.evalV_size f; omega)
      obtain ⟨j, hj, hj0, hj6⟩ : ∃ j : Int, ((m.length : Nat) : Int).tmod 60 = j ∧ 0 ≤ j ∧ j < 60 := ⟨_, rfl, by rw [Int.tmod_eq_emod_of_nonneg (by omega)]; omega, by rw [Int.tmod_eq_emod_of_nonneg (by omega)]; omega⟩
      have tri : f < 0 ∨ 240 < f ∨ (0 ≤ f ∧ f ≤ 240) := by omega
      rcases tri with hfr | hfr | hfr
      · have b3 : decide (f < 0) = true := by simpa using hfr
        generalize x.evalV f = r at *
        rcases r with e | e | b | _ | _
        all_goals simp only [ecT, SC.etm, SC.ecode, SC.tm, SC.code, SC.lab, tm0, noTy] at h1 h2 hsm
        all_goals
          repeat' (first | (first | (simp only [go_sem, b3]) | (((first | apply sp1 | apply sp2 | apply sp3 | apply sp4 | apply sp5 | apply sp6 | apply sp7) <;> intro hb) <;> (simp only [go_sem, hb, b3])) | ((first | apply wm_done | apply wt_done | apply wg_run | refine fk ?_ ?_) <;> (simp only [go_sem, b3]))) | (first | refine cdq ?_ (hc := h1) | refine cmq ?_ (hc := h1) | refine ctq ?_ (hc := h1)); (simp only [go_sem]) | (first | refine cdq ?_ (hc := h2) | refine cmq ?_ (hc := h2) | refine ctq ?_ (hc := h2)); (simp only [go_sem]) | (first | refine cdq ?_ (hc := hsm) | refine cmq ?_ (hc := hsm) | refine ctq ?_ (hc := hsm)); (simp only [go_sem]) | ((first | refine mxq6 [] ?_ | refine mxq5 [] ?_ | refine mxq4 [] ?_ | refine mxq3 [] ?_ | refine mxq2 [] ?_ | refine mxq1 [] ?_ | refine mxq0 [] ?_ | fail); (simp only [go_sem])) | fail)
          all_goals (refine hR _ (rat [] (hK := ⟨rfl, rfl⟩)))
      · have b3 : decide (f < 0) = false := by simp; omega
        have b4 : decide (f > 240) = true := by simpa using hfr
        generalize x.evalV f = r at *
        rcases r with e | e | b | _ | _
        all_goals simp only [ecT, SC.etm, SC.ecode, SC.tm, SC.code, SC.lab, tm0, noTy] at h1 h2 hsm
        all_goals
          repeat' (first | (first | (simp only [go_sem, b3, b4]) | (((first | apply sp1 | apply sp2 | apply sp3 | apply sp4 | apply sp5 | apply sp6 | apply sp7) <;> intro hb) <;> (simp only [go_sem, hb, b3, b4])) | ((first | apply wm_done | apply wt_done | apply wg_run | refine fk ?_ ?_) <;> (simp only [go_sem, b3, b4]))) | (first | refine cdq ?_ (hc := h1) | refine cmq ?_ (hc := h1) | refine ctq ?_ (hc := h1)); (simp only [go_sem]) | (first | refine cdq ?_ (hc := h2) | refine cmq ?_ (hc := h2) | refine ctq ?_ (hc := h2)); (simp only [go_sem]) | (first | refine cdq ?_ (hc := hsm) | refine cmq ?_ (hc := hsm) | refine ctq ?_ (hc := hsm)); (simp only [go_sem]) | ((first | refine mxq6 [] ?_ | refine mxq5 [] ?_ | refine mxq4 [] ?_ | refine mxq3 [] ?_ | refine mxq2 [] ?_ | refine mxq1 [] ?_ | refine mxq0 [] ?_ | fail); (simp only [go_sem])) | fail)
          all_goals (refine hR _ (rat [] (hK := ⟨rfl, rfl⟩)))
      · have b3 : decide (f < 0) = false := by simp; omega
        have b4 : decide (f > 240) = false := by simp; omega
        have hw : IntKind.i64.wrap (f + j) = f + j := IntWalk.i64_in _ (by omega)
        have hmore := Tm.evalV_more (t := x) (f := f) (j := j) (by omega) hj0 (by omega)
        have h3 := iEvalV x (f + j)
        have h4 := iCountSteps x f
        have h5 := iCountSteps x (f + j)
        generalize x.evalV f = r at *
        rcases r with e | e | b | _ | _
        case took => 
          simp only [ecT, SC.etm, SC.ecode, SC.tm, SC.code, SC.lab, tm0, noTy] at h1 h2 hsm
          repeat' (first | (first | (simp only [go_sem, b3, b4]) | (((first | apply sp1 | apply sp2 | apply sp3 | apply sp4 | apply sp5 | apply sp6 | apply sp7) <;> intro hb) <;> (simp only [go_sem, hb, b3, b4])) | ((first | apply wm_done | apply wt_done | apply wg_run | refine fk ?_ ?_) <;> (simp only [go_sem, b3, b4]))) | (first | refine cdq ?_ (hc := h1) | refine cmq ?_ (hc := h1) | refine ctq ?_ (hc := h1)); (simp only [go_sem]) | (first | refine cdq ?_ (hc := h2) | refine cmq ?_ (hc := h2) | refine ctq ?_ (hc := h2)); (simp only [go_sem]) | (first | refine cdq ?_ (hc := hsm) | refine cmq ?_ (hc := hsm) | refine ctq ?_ (hc := hsm)); (simp only [go_sem]) | ((first | refine mxq6 [] ?_ | refine mxq5 [] ?_ | refine mxq4 [] ?_ | refine mxq3 [] ?_ | refine mxq2 [] ?_ | refine mxq1 [] ?_ | refine mxq0 [] ?_ | fail); (simp only [go_sem])) | fail)
          all_goals (refine hR _ (rat [] (hK := ⟨rfl, rfl⟩)))
        all_goals
          obtain ⟨m1, m2, m3⟩ := hmore rfl
          rw [m1] at h3
          rw [m2] at h5
          have b5 : decide (((x.countV f : Nat) : Int) ≤ f) = true := decide_eq_true m3
          generalize x.countV f = c at *
          simp only [ecT, SC.etm, SC.ecode, SC.tm, SC.code, SC.lab, tm0, noTy] at h1 h2 h3 hsm
          repeat' (first | (first | (simp only [go_sem, b3, b4, hj, hw, b5, beq_self_eq_true]) | (((first | apply sp1 | apply sp2 | apply sp3 | apply sp4 | apply sp5 | apply sp6 | apply sp7) <;> intro hb) <;> (simp only [go_sem, hb, b3, b4, hj, hw, b5, beq_self_eq_true])) | ((first | apply wm_done | apply wt_done | apply wg_run | refine fk ?_ ?_) <;> (simp only [go_sem, b3, b4, hj, hw, b5, beq_self_eq_true]))) | (first | refine cdq ?_ (hc := h1) | refine cmq ?_ (hc := h1) | refine ctq ?_ (hc := h1)); (simp only [go_sem]) | (first | refine cdq ?_ (hc := h2) | refine cmq ?_ (hc := h2) | refine ctq ?_ (hc := h2)); (simp only [go_sem]) | (first | refine cdq ?_ (hc := hsm) | refine cmq ?_ (hc := hsm) | refine ctq ?_ (hc := hsm)); (simp only [go_sem]) | (first | refine cdq ?_ (hc := h3) | refine cmq ?_ (hc := h3) | refine ctq ?_ (hc := h3)); (simp only [go_sem]) | (first | refine cdq ?_ (hc := h4) | refine cmq ?_ (hc := h4) | refine ctq ?_ (hc := h4)); (simp only [go_sem]) | (first | refine cdq ?_ (hc := h5) | refine cmq ?_ (hc := h5) | refine ctq ?_ (hc := h5)); (simp only [go_sem]) | ((first | refine mxq6 [] ?_ | refine mxq5 [] ?_ | refine mxq4 [] ?_ | refine mxq3 [] ?_ | refine mxq2 [] ?_ | refine mxq1 [] ?_ | refine mxq0 [] ?_ | fail); (simp only [go_sem, b3, b4, hj, hw, b5, beq_self_eq_true])) | fail)
          all_goals (refine hR _ (rat [] (hK := ⟨rfl, rfl⟩)))
end Go.Proofs.YtjmicohbnpbemaaGreat
