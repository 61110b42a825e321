/- Texts of the proof, one behind another. -/
import Derived.Shelf.Sort.Plain
import Derived.Shelf.Slices.CompactI
import Derived.Shelf.Slices.In.SortNone
import Derived.Test.YtjmicohbnpbemaaGreatKF8
import Derived.Test.YtjmicohbnpbemaaGreatKF10
import Derived.Test.YtjmicohbnpbemaaGreatKF11
import Derived.Test.YtjmicohbnpbemaaGreatKF12
import Derived.Test.YtjmicohbnpbemaaGreatKF21
import Derived.Test.YtjmicohbnpbemaaGreatKF26
set_option linter.unusedSimpArgs false
set_option linter.unusedVariables false
/- The reference's draws of terms with casts. On shadows. -/
namespace Go.Proofs.Grad
theorem Tm.stepV_took {t : Tm} {y : E} (h : t.stepV = .took y) : y.okC = true := by
  unfold Tm.stepV at h
  split at h
  · exact E.sc_ok h
  · cases h
theorem E.size_wf (e : E) (h : e.wf = true) : e.tm.size ≤ 40 * e.nodes := by
  induction e with
  | var _ | num _ | tru | fls => simp [E.tm, nd, Tm.size, Tm.sizes, noTy, Ty.size, Ty.sizes, E.nodes]
  | lam x t a ih =>
    simp only [E.wf, Bool.and_eq_true, decide_eq_true_eq] at h
    have := T.ty_size16 h.2.1; have := ih h.2.2
    simp only [E.tm, Tm.size, Tm.sizes, noTy, Ty.size, Ty.sizes, E.nodes]; omega
  | app a b iha ihb | add a b iha ihb | less a b iha ihb | pair a b iha ihb =>
    simp only [E.wf, Bool.and_eq_true] at h
    have := iha h.1; have := ihb h.2
    simp only [E.tm, nd, Tm.size, Tm.sizes, noTy, Ty.size, Ty.sizes, E.nodes]; omega
  | ite a b c iha ihb ihc =>
    simp only [E.wf, Bool.and_eq_true] at h
    have := iha h.1; have := ihb h.2.1; have := ihc h.2.2
    simp only [E.tm, nd, Tm.size, Tm.sizes, noTy, Ty.size, Ty.sizes, E.nodes]; omega
  | fst a ih | snd a ih =>
    simp only [E.wf] at h
    have := ih h
    simp only [E.tm, nd, Tm.size, Tm.sizes, noTy, Ty.size, Ty.sizes, E.nodes]; omega
  | asc t a ih =>
    simp only [E.wf, Bool.and_eq_true, decide_eq_true_eq] at h
    have := T.ty_size16 h.1; have := ih h.2
    simp only [E.tm, Tm.size, Tm.sizes, noTy, Ty.size, Ty.sizes, E.nodes]; omega
  | cast s t l a ih =>
    simp only [E.wf, Bool.and_eq_true, decide_eq_true_eq] at h
    have := T.ty_size16 h.1.1; have := T.ty_size16 h.1.2; have := ih h.2.2.2
    simp only [E.tm, Tm.size, Tm.sizes, noTy, Ty.size, Ty.sizes, E.nodes]; omega
theorem E.size_ok {e : E} (h : e.okC = true) : e.tm.size ≤ 8000 := by
  simp only [E.okC, Bool.and_eq_true, decide_eq_true_eq] at h
  have := e.size_wf h.1
  omega
end Go.Proofs.Grad
namespace Go.Proofs.YtjmicohbnpbemaaGreat
open Go.RowKit Go.Proofs.Sh Go.Proofs.Grad
set_option maxRecDepth 100000
set_option maxHeartbeats 16000000
theorem l4Random (bs : List Int) (hB : Bs bs) (p : Nat) (hp : p < 690000000) : ACl Tryz.prog 49 [.one (.ptr 2 0 0 0)] [(⟨2, 84, .mut, [[.sl (byR bs), .sc (.int .i64 ((p : Nat) : Int))]]⟩ : Blk)] (DrawsX bs p 661000 4600000) := by
  have h0 := l3Typed bs hB p (by omega)
  refine acl_in Tryz.func49 rfl isfn_49 (Nat.le_of_ble_eq_true rfl) (fun R hR => ?_); rw [Tryz.results49] at hR; refine wg_run ?_; (simp only [Tryz.f49, go_sem])
  repeat' (first | (first | (((first | apply sp1 | apply sp2 | apply sp3 | apply sp4 | apply sp5 | apply sp6 | apply sp7) <;> intro hb) <;> (simp only [go_sem, hb])) | ((first | apply wm_done | apply wt_done | apply wg_run | refine fk ?_ ?_) <;> (simp only [go_sem]))) | fail)
  ((first | refine kdq [0] ?_ (hc := h0) | refine kmq [0] ?_ (hc := h0) | refine ktq [0] ?_ (hc := h0)); rintro _ _ ⟨e, q, rfl, he, hc, hs, hq, rfl⟩; (simp only [go_sem]))
  have hi := sInsertCasts e he hc (by omega)
  have hnd := E.nodes_tm e
  repeat' (first | (first | (((first | apply sp1 | apply sp2 | apply sp3 | apply sp4 | apply sp5 | apply sp6 | apply sp7) <;> intro hb) <;> (simp only [go_sem, hb])) | ((first | apply wm_done | apply wt_done | apply wg_run | refine fk ?_ ?_) <;> (simp only [go_sem]))) | ((first | refine kdq [] ?_ (hc := hi) | refine kmq [] ?_ (hc := hi) | refine ktq [] ?_ (hc := hi)); rintro _ _ (⟨x, t, rfl, hx, ht, rfl⟩ | ⟨rfl, rfl⟩) <;> (simp only [go_sem])) | fail)
  · ((first | refine kdq [0] ?_ (hc := pick bs hB _ (by omega) 3 (by omega) (by omega)) | refine kmq [0] ?_ (hc := pick bs hB _ (by omega) 3 (by omega) (by omega)) | refine ktq [0] ?_ (hc := pick bs hB _ (by omega) 3 (by omega) (by omega))); rintro _ _ ⟨z, rfl, hz, hz1, rfl⟩; (simp only [go_sem]))
    obtain ⟨i0, rfl⟩ := Int.eq_ofNat_of_zero_le hz
    have hi0 : i0 ≤ 2 := by omega
    clear hz1
    refine wd_for [0, 2, 3, 4, 6] (fun (y : Nat × Nat × Tm × T) => [.one (.ptr 2 0 0 0), .one (.ptr 9 1 0 0), .one (.ptr 9 2 0 0), .one (.ptr 2 3 0 0), .one (.sc (.int .i64 (y.1 : Nat)))])
      (fun y => [(⟨2, 84, .mut, [[.sl (byR bs), .sc (.int .i64 ((y.2.1 : Nat) : Int))]]⟩ : Blk), ⟨9, 28, .mut, [[.sc (.int .i64 0), .sc (.string { data := { toList := [] } }), .sc (.int .i64 0), .sc (.int .i64 0), .sc (.slice none 0 0), .sc (.int .i64 0), .sc (.slice none 0 0), .sc (.int .i64 0), .sc (.slice none 0 0)]]⟩, ⟨9, 28, .mut, [teC y.2.2.1]⟩, ⟨2, 25, .mut, [tyC y.2.2.2.ty]⟩])
      (fun y => y.1 ≤ 2 ∧ y.2.1 + y.1 * 100 ≤ q + 201 ∧ y.2.2.1.size + y.1 * 31 ≤ 4590000 ∧ y.2.2.2.depth ≤ 4) (fun y => y.1) (i0, q + 1, x, t) ⟨hi0, by first | omega | (simp only []; omega), by first | omega | (simp only []; omega), ht⟩ (hat [1, 2, 3] (hI := ⟨rfl, rfl⟩)) ?_
    clear hx ht hi h0
    rintro ⟨i, q1, x, t⟩ ⟨hi, hq1, hx, ht⟩ G hG
    simp only [] at hi hq1 hx ht
    refine wg_run ?_
    rcases i with _ | i
    · clear hG
      (simp only [go_sem])
      repeat' (first | (first | (((first | apply sp1 | apply sp2 | apply sp3 | apply sp4 | apply sp5 | apply sp6 | apply sp7) <;> intro hb) <;> (simp only [go_sem, hb])) | ((first | apply wm_done | apply wt_done | apply wg_run | refine fk ?_ ?_) <;> (simp only [go_sem]))) | fail)
      exact hR _ (rat [] (hK := ⟨x, q1, rfl, by omega, by omega, rfl⟩))
    · have d1 : decide (((i + 1 : Nat) : Int) > 0) = true := decide_eq_true (by omega)
      have hw1 : IntKind.i64.wrap (((i + 1 : Nat) : Int) - 1) = (i : Int) := by rw [IntWalk.i64_in _ (by omega)]; omega
      have hw5 : IntKind.i64.wrap (50 + ((i + 1 : Nat) : Int)) = ((51 + i : Nat) : Int) := by rw [IntWalk.i64_in _ (by omega)]; omega
      have hw6 : IntKind.i64.wrap (0 - ((51 + i : Nat) : Int)) = -((51 + i : Nat) : Int) := by rw [IntWalk.i64_in _ (by omega)]; omega
      have hts := tys 4 t ht
      (simp only [go_sem, d1])
      repeat' (first | (first | (simp only [go_sem, d1]) | (((first | apply sp1 | apply sp2 | apply sp3 | apply sp4 | apply sp5 | apply sp6 | apply sp7) <;> intro hb) <;> (simp only [go_sem, hb, d1])) | ((first | apply wm_done | apply wt_done | apply wg_run | refine fk ?_ ?_) <;> (simp only [go_sem, d1]))) | fail)
      ((first | refine kdq [0] ?_ (hc := l1BlurS bs hB t _ (by omega)) | refine kmq [0] ?_ (hc := l1BlurS bs hB t _ (by omega)) | refine ktq [0] ?_ (hc := l1BlurS bs hB t _ (by omega))); rintro _ _ ⟨u0, q2, rfl, hu0, hq2, rfl⟩; (simp only [go_sem]))
      repeat' (first | (first | (simp only [go_sem, d1]) | (((first | apply sp1 | apply sp2 | apply sp3 | apply sp4 | apply sp5 | apply sp6 | apply sp7) <;> intro hb) <;> (simp only [go_sem, hb, d1])) | ((first | apply wm_done | apply wt_done | apply wg_run | refine fk ?_ ?_) <;> (simp only [go_sem, d1]))) | fail)
      ((first | refine kdq [0] ?_ (hc := pick bs hB _ (by omega) 2 (by omega) (by omega)) | refine kmq [0] ?_ (hc := pick bs hB _ (by omega) 2 (by omega) (by omega)) | refine ktq [0] ?_ (hc := pick bs hB _ (by omega) 2 (by omega) (by omega))); rintro _ _ ⟨z2, rfl, hz2, hz2b, rfl⟩; (simp only [go_sem]))
      obtain ⟨q3, hq3⟩ : ∃ q3, q3 = q2 + 1 := ⟨_, rfl⟩
      rw [← hq3]
      have fin : ∀ (u : T), u.depth ≤ 4 → ∀ n : Int, -100 ≤ n → n ≤ 100 → (casT x t u n).1.size ≤ x.size + 31 := fun u hu n _ _ => (casT_size x ht hu n).1
      have lc : ∀ (u : T), u.depth ≤ 4 → ∀ n : Int, -100 ≤ n → n ≤ 100 → _ := fun u hu n h1 h2 => l4Cast x t u ht hu n (by omega) (by omega)
      repeat' (first | (first | (simp only [go_sem, d1]) | (((first | apply sp1 | apply sp2 | apply sp3 | apply sp4 | apply sp5 | apply sp6 | apply sp7) <;> intro hb) <;> (simp only [go_sem, hb, d1])) | ((first | apply wm_done | apply wt_done | apply wg_run | refine fk ?_ ?_) <;> (simp only [go_sem, d1]))) | fail)
      · ((first | refine kdq [0] ?_ (hc := l1Type bs hB _ (by omega)) | refine kmq [0] ?_ (hc := l1Type bs hB _ (by omega)) | refine ktq [0] ?_ (hc := l1Type bs hB _ (by omega))); rintro _ _ ⟨u, q4, rfl, hu, hq4, rfl⟩; (simp only [go_sem]))
        have hcs := sConsT t u
        repeat' (first | (first | (simp only [go_sem, d1]) | (((first | apply sp1 | apply sp2 | apply sp3 | apply sp4 | apply sp5 | apply sp6 | apply sp7) <;> intro hb) <;> (simp only [go_sem, hb, d1])) | ((first | apply wm_done | apply wt_done | apply wg_run | refine fk ?_ ?_) <;> (simp only [go_sem, d1]))) | (first | refine cdq ?_ (hc := hcs) | refine cmq ?_ (hc := hcs) | refine ctq ?_ (hc := hcs)); (simp only [go_sem]) | fail)
        · ((first | refine kdq [0] ?_ (hc := pick bs hB _ (by omega) 3 (by omega) (by omega)) | refine kmq [0] ?_ (hc := pick bs hB _ (by omega) 3 (by omega) (by omega)) | refine ktq [0] ?_ (hc := pick bs hB _ (by omega) 3 (by omega) (by omega))); rintro _ _ ⟨z3, rfl, hz3, hz3b, rfl⟩; (simp only [go_sem]))
          (simp only [go_sem, hw5])
          repeat' (first | (first | (simp only [go_sem, hw5, hw6]) | (((first | apply sp1 | apply sp2 | apply sp3 | apply sp4 | apply sp5 | apply sp6 | apply sp7) <;> intro hb) <;> (simp only [go_sem, hb, hw5, hw6])) | ((first | apply wm_done | apply wt_done | apply wg_run | refine fk ?_ ?_) <;> (simp only [go_sem, hw5, hw6]))) | (first | refine cdq ?_ (hc := lc u hu _ (by omega) (by omega)) | refine cmq ?_ (hc := lc u hu _ (by omega) (by omega)) | refine ctq ?_ (hc := lc u hu _ (by omega) (by omega))); (simp only [go_sem]) | fail)
          all_goals repeat' (first | (first | (simp only [go_sem, hw1]) | (((first | apply sp1 | apply sp2 | apply sp3 | apply sp4 | apply sp5 | apply sp6 | apply sp7) <;> intro hb) <;> (simp only [go_sem, hb, hw1])) | ((first | apply wm_done | apply wt_done | apply wg_run | refine fk ?_ ?_) <;> (simp only [go_sem, hw1]))) | fail)
          · exact hG (i, q4 + 1, (casT x t u (-((51 + i : Nat) : Int))).1, u) _ _ ⟨by first | omega | (simp only []; omega), by first | omega | (simp only []; omega), by have := fin u hu (-((51 + i : Nat) : Int)) (by omega) (by omega); first | omega | (simp only []; omega), hu⟩ (by first | omega | (simp only []; omega)) (hat [1, 2, 3] (hI := ⟨rfl, rfl⟩))
          · exact hG (i, q4 + 1, (casT x t u ((51 + i : Nat) : Int)).1, u) _ _ ⟨by first | omega | (simp only []; omega), by first | omega | (simp only []; omega), by have := fin u hu ((51 + i : Nat) : Int) (by omega) (by omega); first | omega | (simp only []; omega), hu⟩ (by first | omega | (simp only []; omega)) (hat [1, 2, 3] (hI := ⟨rfl, rfl⟩))
        · repeat' (first | (first | (simp only [go_sem, hw1]) | (((first | apply sp1 | apply sp2 | apply sp3 | apply sp4 | apply sp5 | apply sp6 | apply sp7) <;> intro hb) <;> (simp only [go_sem, hb, hw1])) | ((first | apply wm_done | apply wt_done | apply wg_run | refine fk ?_ ?_) <;> (simp only [go_sem, hw1]))) | fail)
          exact hG (i, q4, x, t) _ _ ⟨by first | omega | (simp only []; omega), by first | omega | (simp only []; omega), by first | omega | (simp only []; omega), ht⟩ (by first | omega | (simp only []; omega)) (hat [1, 2, 3] (hI := ⟨rfl, rfl⟩))
      · have hu : u0.depth ≤ 4 := by omega
        have hcs := sConsT t u0
        repeat' (first | (first | (simp only [go_sem, d1]) | (((first | apply sp1 | apply sp2 | apply sp3 | apply sp4 | apply sp5 | apply sp6 | apply sp7) <;> intro hb) <;> (simp only [go_sem, hb, d1])) | ((first | apply wm_done | apply wt_done | apply wg_run | refine fk ?_ ?_) <;> (simp only [go_sem, d1]))) | (first | refine cdq ?_ (hc := hcs) | refine cmq ?_ (hc := hcs) | refine ctq ?_ (hc := hcs)); (simp only [go_sem]) | fail)
        · ((first | refine kdq [0] ?_ (hc := pick bs hB _ (by omega) 3 (by omega) (by omega)) | refine kmq [0] ?_ (hc := pick bs hB _ (by omega) 3 (by omega) (by omega)) | refine ktq [0] ?_ (hc := pick bs hB _ (by omega) 3 (by omega) (by omega))); rintro _ _ ⟨z3, rfl, hz3, hz3b, rfl⟩; (simp only [go_sem]))
          (simp only [go_sem, hw5])
          repeat' (first | (first | (simp only [go_sem, hw5, hw6]) | (((first | apply sp1 | apply sp2 | apply sp3 | apply sp4 | apply sp5 | apply sp6 | apply sp7) <;> intro hb) <;> (simp only [go_sem, hb, hw5, hw6])) | ((first | apply wm_done | apply wt_done | apply wg_run | refine fk ?_ ?_) <;> (simp only [go_sem, hw5, hw6]))) | (first | refine cdq ?_ (hc := lc u0 hu _ (by omega) (by omega)) | refine cmq ?_ (hc := lc u0 hu _ (by omega) (by omega)) | refine ctq ?_ (hc := lc u0 hu _ (by omega) (by omega))); (simp only [go_sem]) | fail)
          all_goals repeat' (first | (first | (simp only [go_sem, hw1]) | (((first | apply sp1 | apply sp2 | apply sp3 | apply sp4 | apply sp5 | apply sp6 | apply sp7) <;> intro hb) <;> (simp only [go_sem, hb, hw1])) | ((first | apply wm_done | apply wt_done | apply wg_run | refine fk ?_ ?_) <;> (simp only [go_sem, hw1]))) | fail)
          · exact hG (i, q3 + 1, (casT x t u0 (-((51 + i : Nat) : Int))).1, u0) _ _ ⟨by first | omega | (simp only []; omega), by first | omega | (simp only []; omega), by have := fin u0 hu (-((51 + i : Nat) : Int)) (by omega) (by omega); first | omega | (simp only []; omega), hu⟩ (by first | omega | (simp only []; omega)) (hat [1, 2, 3] (hI := ⟨rfl, rfl⟩))
          · exact hG (i, q3 + 1, (casT x t u0 ((51 + i : Nat) : Int)).1, u0) _ _ ⟨by first | omega | (simp only []; omega), by first | omega | (simp only []; omega), by have := fin u0 hu ((51 + i : Nat) : Int) (by omega) (by omega); first | omega | (simp only []; omega), hu⟩ (by first | omega | (simp only []; omega)) (hat [1, 2, 3] (hI := ⟨rfl, rfl⟩))
        · repeat' (first | (first | (simp only [go_sem, hw1]) | (((first | apply sp1 | apply sp2 | apply sp3 | apply sp4 | apply sp5 | apply sp6 | apply sp7) <;> intro hb) <;> (simp only [go_sem, hb, hw1])) | ((first | apply wm_done | apply wt_done | apply wg_run | refine fk ?_ ?_) <;> (simp only [go_sem, hw1]))) | fail)
          exact hG (i, q3, x, t) _ _ ⟨by first | omega | (simp only []; omega), by first | omega | (simp only []; omega), by first | omega | (simp only []; omega), ht⟩ (by first | omega | (simp only []; omega)) (hat [1, 2, 3] (hI := ⟨rfl, rfl⟩))
  · have h6 := l2NumS 6
    repeat' (first | (first | (((first | apply sp1 | apply sp2 | apply sp3 | apply sp4 | apply sp5 | apply sp6 | apply sp7) <;> intro hb) <;> (simp only [go_sem, hb])) | ((first | apply wm_done | apply wt_done | apply wg_run | refine fk ?_ ?_) <;> (simp only [go_sem]))) | (first | refine cdq ?_ (hc := h6) | refine cmq ?_ (hc := h6) | refine ctq ?_ (hc := h6)); (simp only [go_sem]) | fail)
    exact hR _ (rat [] (hK := ⟨(E.num 6).tm, q, rfl, by simp [E.tm, Tm.size, Tm.sizes, noTy, Ty.size, Ty.sizes], by omega, rfl⟩))
theorem l4Mutate (bs : List Int) (hB : Bs bs) (p : Nat) (hp : p < 695000000) (t : Tm) (ht : t.size < 9000000) : ACl Tryz.prog 51 [.one (.ptr 2 0 0 0), .agg (teC t)] [(⟨2, 84, .mut, [[.sl (byR bs), .sc (.int .i64 ((p : Nat) : Int))]]⟩ : Blk)] (DrawsX bs p 100 (t.size + 200)) := by
  have h0 := l2Mutate bs hB p (by omega) t (by omega)
  refine acl_in Tryz.func51 rfl isfn_51 (Nat.le_of_ble_eq_true rfl) (fun R hR => ?_); rw [Tryz.results51] at hR; refine wg_run ?_; (simp only [Tryz.f51, go_sem])
  repeat' (first | (first | (((first | apply sp1 | apply sp2 | apply sp3 | apply sp4 | apply sp5 | apply sp6 | apply sp7) <;> intro hb) <;> (simp only [go_sem, hb])) | ((first | apply wm_done | apply wt_done | apply wg_run | refine fk ?_ ?_) <;> (simp only [go_sem]))) | fail)
  ((first | refine kdq [0] ?_ (hc := h0) | refine kmq [0] ?_ (hc := h0) | refine ktq [0] ?_ (hc := h0)); rintro _ _ ⟨t1, q, rfl, ht1, hq, rfl⟩; (simp only [go_sem]))
  have et := teC_eq t1
  have e : t1.size = 1 + (t1.type.size + t1.frm.size + Tm.sizes t1.kids) := by cases t1; rfl
  repeat' (first | (first | (((first | apply sp1 | apply sp2 | apply sp3 | apply sp4 | apply sp5 | apply sp6 | apply sp7) <;> intro hb) <;> (simp only [go_sem, hb])) | ((first | apply wm_done | apply wt_done | apply wg_run | refine fk ?_ ?_) <;> (simp only [go_sem]))) | fail)
  ((first | refine kdq [0] ?_ (hc := pick bs hB _ (by omega) 40 (by omega) (by omega)) | refine kmq [0] ?_ (hc := pick bs hB _ (by omega) 40 (by omega) (by omega)) | refine ktq [0] ?_ (hc := pick bs hB _ (by omega) 40 (by omega) (by omega))); rintro _ _ ⟨z, rfl, hz, hz1, rfl⟩; (simp only [go_sem]))
  repeat' (first | (first | (simp only [go_sem, et]) | (((first | apply sp1 | apply sp2 | apply sp3 | apply sp4 | apply sp5 | apply sp6 | apply sp7) <;> intro hb) <;> (simp only [go_sem, hb, et])) | ((first | apply wm_done | apply wt_done | apply wg_run | refine fk ?_ ?_) <;> (simp only [go_sem, et]))) | fail)
  · ((first | refine kdq [0] ?_ (hc := num bs hB _ (by omega) [0, 100, -9223372036854775808, 3] (by decide) (by decide)) | refine kmq [0] ?_ (hc := num bs hB _ (by omega) [0, 100, -9223372036854775808, 3] (by decide) (by decide)) | refine ktq [0] ?_ (hc := num bs hB _ (by omega) [0, 100, -9223372036854775808, 3] (by decide) (by decide))); rintro _ _ ⟨y, rfl, hy, rfl⟩; (simp only [go_sem]))
    repeat' (first | (first | (simp only [go_sem, et]) | (((first | apply sp1 | apply sp2 | apply sp3 | apply sp4 | apply sp5 | apply sp6 | apply sp7) <;> intro hb) <;> (simp only [go_sem, hb, et])) | ((first | apply wm_done | apply wt_done | apply wg_run | refine fk ?_ ?_) <;> (simp only [go_sem, et]))) | ((first | refine mxq6 [] ?_ | refine mxq5 [] ?_ | refine mxq4 [] ?_ | refine mxq3 [] ?_ | refine mxq2 [] ?_ | refine mxq1 [] ?_ | refine mxq0 [] ?_ | fail); (simp only [go_sem, et])) | fail)
    exact hR _ (rat [] (hK := ⟨.mk t1.kind t1.name t1.num t1.type t1.frm y t1.kids, q + 2, by rw [teC_eq]; rfl, by simp only [Tm.size]; omega, by omega, rfl⟩))
  · ((first | refine kdq [0] ?_ (hc := l1Type bs hB _ (by omega)) | refine kmq [0] ?_ (hc := l1Type bs hB _ (by omega)) | refine ktq [0] ?_ (hc := l1Type bs hB _ (by omega))); rintro _ _ ⟨x1, q1, rfl, hx1, hq1, rfl⟩; (simp only [go_sem]))
    have hx9 := tys 4 x1 hx1
    have hm := l1Mutate bs hB q1 (by omega) x1.ty (by rw [T.ty_size]; omega)
    repeat' (first | (first | (simp only [go_sem, et]) | (((first | apply sp1 | apply sp2 | apply sp3 | apply sp4 | apply sp5 | apply sp6 | apply sp7) <;> intro hb) <;> (simp only [go_sem, hb, et])) | ((first | apply wm_done | apply wt_done | apply wg_run | refine fk ?_ ?_) <;> (simp only [go_sem, et]))) | fail)
    ((first | refine kdq [0] ?_ (hc := hm) | refine kmq [0] ?_ (hc := hm) | refine ktq [0] ?_ (hc := hm)); rintro _ _ ⟨y, q2, rfl, hy, hq2, rfl⟩; (simp only [go_sem]))
    rw [T.ty_size] at hy
    repeat' (first | (first | (simp only [go_sem, et]) | (((first | apply sp1 | apply sp2 | apply sp3 | apply sp4 | apply sp5 | apply sp6 | apply sp7) <;> intro hb) <;> (simp only [go_sem, hb, et])) | ((first | apply wm_done | apply wt_done | apply wg_run | refine fk ?_ ?_) <;> (simp only [go_sem, et]))) | ((first | refine mxq6 [] ?_ | refine mxq5 [] ?_ | refine mxq4 [] ?_ | refine mxq3 [] ?_ | refine mxq2 [] ?_ | refine mxq1 [] ?_ | refine mxq0 [] ?_ | fail); (simp only [go_sem, et])) | fail)
    exact hR _ (rat [] (hK := ⟨.mk t1.kind t1.name t1.num t1.type y t1.label t1.kids, q2, by rw [teC_eq]; rfl, by simp only [Tm.size]; omega, by omega, rfl⟩))
  · repeat' (first | (first | (simp only [go_sem, et]) | (((first | apply sp1 | apply sp2 | apply sp3 | apply sp4 | apply sp5 | apply sp6 | apply sp7) <;> intro hb) <;> (simp only [go_sem, hb, et])) | ((first | apply wm_done | apply wt_done | apply wg_run | refine fk ?_ ?_) <;> (simp only [go_sem, et]))) | fail)
    exact hR _ (rat [] (hK := ⟨t1, q + 1, by rw [teC_eq], by omega, by omega, rfl⟩))
/-- a term, not too large -/
def OneX (r : AV) (H' : List Blk) : Prop := ∃ x : Tm, r = .agg (teC x) ∧ x.size ≤ 5000000 ∧ H' = []
theorem dStepCast (l : List Int) (hl : Code8 l) : ACl Tryz.prog 20 [.one (.sl (byR l))] [] OneX := by
  have ho := opn l hl.len hl.all
  refine acl_in Tryz.func20 rfl isfn_20 (Nat.le_of_ble_eq_true rfl) (fun R hR => ?_); rw [Tryz.results20] at hR; refine wg_run ?_; (simp only [Tryz.f20, go_sem])
  ((first | refine kdq [] ?_ (hc := ho) | refine kmq [] ?_ (hc := ho) | refine ktq [] ?_ (hc := ho)); rintro _ _ ⟨bs, hB, rfl, rfl⟩ <;> (simp only [go_sem]))
  have ht := l4Random bs hB 0 (by omega)
  repeat' (first | (first | (((first | apply sp1 | apply sp2 | apply sp3 | apply sp4 | apply sp5 | apply sp6 | apply sp7) <;> intro hb) <;> (simp only [go_sem, hb])) | ((first | apply wm_done | apply wt_done | apply wg_run | refine fk ?_ ?_) <;> (simp only [go_sem]))) | fail)
  ((first | refine kdq [1] ?_ (hc := ht) | refine kmq [1] ?_ (hc := ht) | refine ktq [1] ?_ (hc := ht)); rintro _ _ ⟨x, p, rfl, hx, hp, rfl⟩ <;> (simp only [go_sem]))
  have hk := pick bs hB p (by omega) 5 (by omega) (by omega)
  repeat' (first | (first | (((first | apply sp1 | apply sp2 | apply sp3 | apply sp4 | apply sp5 | apply sp6 | apply sp7) <;> intro hb) <;> (simp only [go_sem, hb])) | ((first | apply wm_done | apply wt_done | apply wg_run | refine fk ?_ ?_) <;> (simp only [go_sem]))) | fail)
  ((first | refine kdq [1] ?_ (hc := hk) | refine kmq [1] ?_ (hc := hk) | refine ktq [1] ?_ (hc := hk)); rintro _ _ ⟨z, rfl, hz, hz1, rfl⟩ <;> (simp only [go_sem]))
  obtain ⟨i0, rfl⟩ := Int.eq_ofNat_of_zero_le hz
  refine wd_for [2, 3, 4, 5] (fun (y : Nat × Tm) => [.one (.ptr 9 0 0 0), .one (.ptr 2 1 0 0), .one (.ptr 9 2 0 0), .one (.sc (.int .i64 (y.1 : Nat)))])
    (fun y => [⟨9, 28, .mut, [[.sc (.int .i64 0), .sc (.string { data := { toList := [] } }), .sc (.int .i64 0), .sc (.int .i64 0), .sc (.slice none 0 0), .sc (.int .i64 0), .sc (.slice none 0 0), .sc (.int .i64 0), .sc (.slice none 0 0)]]⟩, (⟨2, 84, .mut, [[.sl (byR bs), .sc (.int .i64 ((p + 1 : Nat) : Int))]]⟩ : Blk), ⟨9, 28, .mut, [teC y.2]⟩])
    (fun y => y.1 ≤ 4 ∧ y.2.size ≤ 4600000) (fun y => y.1) (i0, x) ⟨by first | omega | (simp only []; omega), by first | omega | (simp only []; omega)⟩ (hat [0, 1, 2] (hI := ⟨rfl, rfl⟩)) ?_
  clear hx ht hk hz hz1
  rintro ⟨i, x⟩ ⟨hi, hx⟩ G hG
  simp only [] at hi hx
  refine wg_run ?_
  rcases i with _ | i
  · clear hG
    have hm := l4Mutate bs hB (p + 1) (by omega) x (by omega)
    (simp only [go_sem])
    repeat' (first | (first | (((first | apply sp1 | apply sp2 | apply sp3 | apply sp4 | apply sp5 | apply sp6 | apply sp7) <;> intro hb) <;> (simp only [go_sem, hb])) | ((first | apply wm_done | apply wt_done | apply wg_run | refine fk ?_ ?_) <;> (simp only [go_sem]))) | fail)
    ((first | refine kdq [1] ?_ (hc := hm) | refine kmq [1] ?_ (hc := hm) | refine ktq [1] ?_ (hc := hm)); rintro _ _ ⟨y, q, rfl, hy, hq, rfl⟩ <;> (simp only [go_sem]))
    repeat' (first | (first | (((first | apply sp1 | apply sp2 | apply sp3 | apply sp4 | apply sp5 | apply sp6 | apply sp7) <;> intro hb) <;> (simp only [go_sem, hb])) | ((first | apply wm_done | apply wt_done | apply wg_run | refine fk ?_ ?_) <;> (simp only [go_sem]))) | fail)
    exact hR _ (rat [] (hK := ⟨y, rfl, by omega, rfl⟩))
  · have d1 : decide (((i + 1 : Nat) : Int) > 0) = true := decide_eq_true (by omega)
    have hw1 : IntKind.i64.wrap (((i + 1 : Nat) : Int) - 1) = (i : Int) := by rw [IntWalk.i64_in _ (by omega)]; omega
    have hst := sStepV x (by omega)
    cases es : x.stepV with
    | took y =>
      have hy := E.size_ok (Tm.stepV_took es)
      rw [es] at hst
      simp only [scT, SC.tm, SC.code, SC.lab] at hst
      (simp only [go_sem, d1])
      repeat' (first | (first | (simp only [go_sem, hw1]) | (((first | apply sp1 | apply sp2 | apply sp3 | apply sp4 | apply sp5 | apply sp6 | apply sp7) <;> intro hb) <;> (simp only [go_sem, hb, hw1])) | ((first | apply wm_done | apply wt_done | apply wg_run | refine fk ?_ ?_) <;> (simp only [go_sem, hw1]))) | (first | refine cdq ?_ (hc := hst) | refine cmq ?_ (hc := hst) | refine ctq ?_ (hc := hst)); (simp only [go_sem]) | fail)
      exact hG (i, y.tm) _ _ ⟨by first | omega | (simp only []; omega), by first | omega | (simp only []; omega)⟩ (by first | omega | (simp only []; omega)) (hat [0, 1, 2] (hI := ⟨rfl, rfl⟩))
    | _ =>
      rw [es] at hst
      simp only [scT, SC.tm, SC.code, SC.lab, tm0, noTy] at hst
      (simp only [go_sem, d1])
      repeat' (first | (first | (simp only [go_sem, hw1]) | (((first | apply sp1 | apply sp2 | apply sp3 | apply sp4 | apply sp5 | apply sp6 | apply sp7) <;> intro hb) <;> (simp only [go_sem, hb, hw1])) | ((first | apply wm_done | apply wt_done | apply wg_run | refine fk ?_ ?_) <;> (simp only [go_sem, hw1]))) | (first | refine cdq ?_ (hc := hst) | refine cmq ?_ (hc := hst) | refine ctq ?_ (hc := hst)); (simp only [go_sem]) | fail)
      exact hG (i, x) _ _ ⟨by first | omega | (simp only []; omega), by first | omega | (simp only []; omega)⟩ (by first | omega | (simp only []; omega)) (hat [0, 1, 2] (hI := ⟨rfl, rfl⟩))
end Go.Proofs.YtjmicohbnpbemaaGreat
/- Terms: sameness, in the program; on shadows. -/
namespace Go.Proofs.YtjmicohbnpbemaaGreat
open Go.RowKit Go.Proofs.Sh Go.Proofs.Grad
set_option maxRecDepth 100000
set_option maxHeartbeats 8000000
theorem iTmSame (n : Nat) (hn : n ≤ 4611686018427387904) : ∀ a b : Tm, a.size < n → AFn Tryz.prog 23 [.agg (teC a), .agg (teC b)] (.one (.sc (.bool (a.same b)))) := by
  induction n with
  | zero => intro a b h; omega
  | succ n ih =>
    intro a b h
    have hl := telen_lt a
    have hk : ∀ k, k < a.kids.length → k < b.kids.length → AFn Tryz.prog 23 [.agg (teC (teKid a.kids k)), .agg (teC (teKid b.kids k))] (.one (.sc (.bool ((teKid a.kids k).same (teKid b.kids k))))) := fun k h1 h2 => ih (by omega) _ _ (by have := teKid_lt h1; omega)
    have hf := teEqFunc _ Tm.same a.kids b.kids (by omega) hk
    have h1 := iSame 4611686018427387904 (by omega) a.type b.type (by cases a; simp only [Tm.size, Tm.type] at *; omega)
    have h2 := iSame 4611686018427387904 (by omega) a.frm b.frm (by cases a; simp only [Tm.size, Tm.frm] at *; omega)
    clear hk ih
    have e : a.same b = (a.kind == b.kind && (a.name.toList == b.name.toList && (a.num == b.num && (a.type.same b.type && (a.frm.same b.frm && (a.label == b.label && teall2 Tm.same a.kids b.kids)))))) := by
      cases a; cases b; rw [← tesames_all2]; simp only [Tm.same, Tm.kind, Tm.name, Tm.num, Tm.type, Tm.frm, Tm.label, Tm.kids, Bool.and_assoc]
    rw [e]
    refine fn_in ?_; refine acl_in Tryz.func23 rfl isfn_23 (Nat.le_of_ble_eq_true rfl) (fun R hR => ?_); rw [Tryz.results23] at hR; refine wg_run ?_; (simp only [Tryz.f23, go_sem])
    repeat' (first | (first | (((first | apply sp1 | apply sp2 | apply sp3 | apply sp4 | apply sp5 | apply sp6 | apply sp7) <;> intro hb) <;> (simp only [go_sem, hb])) | ((first | apply wm_done | apply wt_done | apply wg_run | refine fk ?_ ?_) <;> (simp only [go_sem]))) | (first | refine cdq ?_ (hc := h1) | refine cmq ?_ (hc := h1) | refine ctq ?_ (hc := h1)); (simp only [go_sem]) | (first | refine cdq ?_ (hc := h2) | refine cmq ?_ (hc := h2) | refine ctq ?_ (hc := h2)); (simp only [go_sem]) | (first | refine cdq ?_ (hc := hf) | refine cmq ?_ (hc := hf) | refine ctq ?_ (hc := hf)); (simp only [go_sem]) | ((first | refine mxq6 [] ?_ | refine mxq5 [] ?_ | refine mxq4 [] ?_ | refine mxq3 [] ?_ | refine mxq2 [] ?_ | refine mxq1 [] ?_ | refine mxq0 [] ?_ | fail); (simp only [go_sem])))
    all_goals (refine hR _ (rat [] (hK := ⟨?_, rfl⟩)))
    all_goals (clear hR h1 h2 hf; simp_all)
end Go.Proofs.YtjmicohbnpbemaaGreat
/- Laws of evaluation: fuel, steps, contexts. No program, no world. -/
namespace Go.Proofs.Grad
theorem Tm.stepV_tookE {t : Tm} {y : E} (h : t.stepV = .took y) : ∃ e : E, e.tm = t ∧ e.okC = true ∧ e.sc = .took y := by
  cases hc : t.castV with
  | false => rw [Tm.stepV_bad hc] at h; cases h
  | true =>
    obtain ⟨e, rfl, ho⟩ := Tm.castV_E hc
    rw [Tm.stepV_E ho] at h
    exact ⟨e, rfl, ho, h⟩
end Go.Proofs.Grad
/- What laws of evaluation need: sameness of results. On shadows. -/
namespace Go.Proofs.Grad
theorem tm0_size : tm0.size ≤ 8000 := by simp [tm0, Tm.size, Tm.sizes, noTy, Ty.size, Ty.sizes]
theorem Tm.stepV_size (t : Tm) : t.stepV.tm.size ≤ 8000 := by
  cases hc : t.castV with
  | false => rw [Tm.stepV_bad hc]; exact tm0_size
  | true =>
    obtain ⟨e, rfl, ho⟩ := Tm.castV_E hc
    rw [Tm.stepV_E ho]
    cases hs : e.sc with
    | value y =>
      unfold E.sc at hs
      split at hs
      · cases hs; exact E.size_ok ho
      · split at hs
        · split at hs <;> cases hs
        · cases hs
        · cases hs
    | took y => exact E.size_ok (E.sc_ok hs)
    | _ => exact tm0_size
end Go.Proofs.Grad
namespace Go.Proofs.YtjmicohbnpbemaaGreat
open Go.RowKit Go.Proofs.Sh Go.Proofs.Grad
set_option maxRecDepth 100000
set_option maxHeartbeats 8000000
theorem iTmRefl (t : Tm) (h : t.size < 100000000) : AFn Tryz.prog 23 [.agg (teC t), .agg (teC t)] (.one (.sc (.bool true))) := by
  have := iTmSame 4611686018427387904 (by omega) t t (by omega)
  rwa [Tm.same_refl] at this
end Go.Proofs.YtjmicohbnpbemaaGreat
/- Lists of numbers sorted and made compact by the library: its contracts, as contracts on shadows. -/
namespace Go.Proofs.Sh
open Go.RowKit
def intR : List Int → List (List C) | [] => [] | z :: l => [.sc (.int .i64 z)] :: intR l
@[go_sem] theorem intR_length (l : List Int) : (intR l).length = l.length := by
  induction l with
  | nil => rfl
  | cons t l ih => simp [intR, ih]
theorem intR_get (l : List Int) (i : Nat) : (intR l)[i]? = (l[i]?).map fun z => [C.sc (.int .i64 z)] := by
  induction l generalizing i with
  | nil => simp [intR]
  | cons t l ih => cases i <;> simp [intR, ih]
/-- the k-th number -/
def num (l : List Int) (k : Nat) : Int := l.getD k 0
@[go_sem] theorem intR_at (l : List Int) (i : Nat) : (intR l)[i]? = match decide ((i : Int) < (l.length : Int)) with | true => some [C.sc (.int .i64 (num l i))] | false => none := by
  rw [intR_get]
  by_cases h : i < l.length
  · have h' : (i : Int) < (l.length : Int) := by omega
    simp [h, h', num]
  · have h' : ¬ (i : Int) < (l.length : Int) := by omega
    simp [h, h']
theorem num_eq {l : List Int} {k : Nat} (h : k < l.length) : num l k = l[k] := by simp [num, h]
theorem intR_append (l m : List Int) : intR (l ++ m) = intR l ++ intR m := by
  induction l with
  | nil => rfl
  | cons t l ih => simp [intR, ih]
theorem numtake {l : List Int} {k : Nat} (h : k < l.length) : l.take (k + 1) = l.take k ++ [num l k] := by
  rw [num_eq h, List.take_succ_eq_append_getElem h]
@[go_sem] theorem intR_tree (l : List Int) : treeRows (intR l) = true := by
  induction l with
  | nil => rfl
  | cons t l ih => simp only [intR, treeRows_cons, treeL_cons, treeL_nil, C.tree, Bool.true_and]; exact ih
@[go_sem] theorem intR_len (l : List Int) : rowsLen 1 (intR l) = true := by
  induction l with
  | nil => rfl
  | cons t l ih => simp only [intR, rowsLen_cons, List.length_cons, List.length_nil]; exact ih
attribute [go_sem] intR
/-! ### a row of numbers written by the library -/
section
variable {X : List Nat} {g : Nat} {ty : TypeId} {zs : List Int} {w : World}
theorem sim_cells (hS : Sim X [g] [⟨1, ty, .mut, intR zs⟩] w) : ∃ cur, w.heap[g]? = some (.cells cur ty (0, 0)) ∧ ∀ j (h : j < zs.length), cur[j]? = some (.int .i64 zs[j]) := by
  obtain ⟨cur, h1, h2⟩ := hS.blk 0 _ g rfl rfl rfl
  refine ⟨cur, h1, fun j h => ?_⟩
  have h3 : (intR zs)[j]? = some [C.sc (.int .i64 zs[j])] := by rw [intR_get]; simp [h]
  obtain ⟨_, h4⟩ := h2 j _ h3
  obtain ⟨u, h5, h6⟩ := h4 0 _ rfl
  simp only [C.rep] at h6
  simpa [h6.1] using h5
theorem sim_holds (hS : Sim X [g] [⟨1, ty, .mut, intR zs⟩] w) : Go.Sort.Holds (Value.int .i64) w g 0 zs.toArray := by
  obtain ⟨cur, h1, h2⟩ := sim_cells hS
  intro j hj
  have hj : j < zs.length := by simpa using hj
  have h3 := h2 j hj
  have hlt := (Array.getElem?_eq_some_iff.1 h3).1
  refine ⟨?_, ?_⟩
  · simp only [World.cell?, h1, Nat.zero_add, h3]
    simp [hj]
  · simp [World.frozen?, h1]
theorem put_heap {d : Array Int} {os : Array Obj} {n : Nat} {cur : Array Value} (hg : w.heap[g]? = some (.cells cur ty (0, 0))) : ∀ b, b < w.heap.size → (Go.Sort.grow (Go.Sort.putRow (Value.int .i64) (Go.Sort.ahead w n) g 0 d) os).heap[b]? = if b = g then some (.cells (Go.Sort.putCells (Value.int .i64) 0 d cur) ty (0, 0)) else w.heap[b]? := by
  intro b hb
  have : (Go.Sort.grow (Go.Sort.putRow (Value.int .i64) (Go.Sort.ahead w n) g 0 d) os).heap[b]? = (Go.Sort.putRow (Value.int .i64) (Go.Sort.ahead w n) g 0 d).heap[b]? := by
    rw [Go.Sort.heap_grow_old]; simpa using hb
  rw [this]
  show (w.heap.modify g _)[b]? = _
  rw [Array.getElem?_modify]
  by_cases h : b = g
  · subst h; simp [hg, Go.Sort.onCells]
  · rw [if_neg h, if_neg (fun e => h e.symm)]
theorem put_sim (hS : Sim X [g] [⟨1, ty, .mut, intR zs⟩] w) {d : List Int} {os : Array Obj} {n : Nat} {l : List Int} (hd : d.length = zs.length) (hl : l.length ≤ d.length) (hp : ∀ j (h : j < l.length), d[j]? = some l[j]) :
    Sim X [g] [⟨1, ty, .mut, intR l⟩] (Go.Sort.grow (Go.Sort.putRow (Value.int .i64) (Go.Sort.ahead w n) g 0 d.toArray) os) ∧ Stp [g] [⟨1, ty, .mut, intR zs⟩] w [g] [⟨1, ty, .mut, intR l⟩] (Go.Sort.grow (Go.Sort.putRow (Value.int .i64) (Go.Sort.ahead w n) g 0 d.toArray) os) := by
  obtain ⟨cur, hg, hc⟩ := sim_cells hS
  have hh := put_heap (w := w) (d := d.toArray) (os := os) (n := n) hg
  have hsz : w.heap.size ≤ (Go.Sort.grow (Go.Sort.putRow (Value.int .i64) (Go.Sort.ahead w n) g 0 d.toArray) os).heap.size := by simp
  have hgs : g < w.heap.size := (Array.getElem?_eq_some_iff.1 hg).1
  refine ⟨⟨rfl, fun x hx => ?_, fun x hx => Nat.lt_of_lt_of_le (hS.xlt x hx) hsz, ?_, ?_, ?_⟩, ⟨⟨rfl, rfl, rfl, hsz, ?_, ?_⟩, fun _ _ h => h, fun x hx _ => hx⟩⟩
  · simp at hx; subst hx; omega
  · intro i b x hi hk hx
    cases i with
    | zero => simp at hx; subst hx; exact hS.out 0 _ g rfl rfl rfl
    | succ i => simp at hi
  · intro i j b b' x hij hi hj
    cases i with
    | zero => cases j with
      | zero => exact absurd rfl hij
      | succ j => simp at hj
    | succ i => simp at hi
  · intro i b x hi hk hx
    cases i with
    | zero =>
      simp at hi hx; subst hi hx
      refine ⟨_, by rw [hh g hgs, if_pos rfl], fun i r hr => ?_⟩
      rw [intR_get] at hr
      by_cases hil : i < l.length
      · rw [List.getElem?_eq_getElem hil] at hr
        simp only [Option.map_some, Option.some.injEq] at hr
        subst hr
        refine ⟨rfl, fun j c hj => ?_⟩
        cases j with
        | zero =>
          simp at hj; subst hj
          have hci := hc i (by omega)
          refine ⟨.int .i64 l[i], ?_, ?_⟩
          · simp only [Go.Sort.putCells, Nat.mul_one, Nat.add_zero, Array.getElem?_mapIdx, hci, Option.map_some]
            have : d.toArray[i]! = l[i] := by
              have := hp i hil
              simp [this]
            rw [if_pos ⟨Nat.zero_le _, by simp; omega⟩, Nat.sub_zero, this]
          · simp only [C.rep]; exact ⟨trivial, rfl⟩
        | succ j => simp at hj
      · rw [List.getElem?_eq_none (by omega)] at hr; simp at hr
    | succ i => simp at hi
  · intro b hb hbl
    have : b ≠ g := fun e => hb (by simp [alive, St.isMut, e])
    rw [hh b hbl, if_neg this]
  · intro b c t hb
    have hbl : b < w.heap.size := (Array.getElem?_eq_some_iff.1 hb).1
    rw [hh b hbl]
    by_cases e : b = g
    · subst e
      rw [hg] at hb
      simp only [Option.some.injEq, Obj.cells.injEq] at hb
      obtain ⟨rfl, rfl, _⟩ := hb
      exact ⟨_, by rw [if_pos rfl], by simp [Go.Sort.putCells]⟩
    · exact ⟨c, by rw [if_neg e]; exact hb, rfl⟩
end
end Go.Proofs.Sh
