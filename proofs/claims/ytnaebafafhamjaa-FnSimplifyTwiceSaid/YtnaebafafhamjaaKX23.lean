/- Texts of the proof, one behind another. -/
import Derived.Test.YtnaebafafhamjaaKX9
import Derived.Test.YtnaebafafhamjaaKX11
import Derived.Test.YtnaebafafhamjaaKX13
import Derived.Test.YtnaebafafhamjaaKX17
import Derived.Test.YtnaebafafhamjaaKX20
import Derived.Test.YtnaebafafhamjaaKX22
set_option linter.unusedSimpArgs false
set_option linter.unusedVariables false
/- The reference's draws of typed terms, and of terms with casts. On shadows. -/
namespace Go.Proofs.Ytnaebafafhamjaa
open Go.RowKit Go.Proofs.Sh Go.Proofs.Grad
set_option maxRecDepth 100000
set_option maxHeartbeats 16000000
theorem T.depth_pos (t : T) : 1 ≤ t.depth := by cases t <;> simp [T.depth]
theorem make1 (bs : List Int) (hB : Bs bs) (d : Int) (h0 : -900 ≤ d) (h1 : d ≤ 1) (t : T) (ht : t.depth ≤ 1) : MakeC bs d t 7 898000000 130 30 :=
  l3MakeB bs hB d (by omega) (by omega) h1 t (by omega) 7 898000000 0 0 (by omega) (by omega) (fun u hu => by have := T.depth_pos u; omega)
theorem make2 (bs : List Int) (hB : Bs bs) (d : Int) (h0 : -800 ≤ d) (h1 : d ≤ 1) (t : T) (ht : t.depth ≤ 2) : MakeC bs d t 6 897000000 390 90 :=
  l3MakeB bs hB d (by omega) (by omega) h1 t (by omega) 6 897000000 130 30 (by omega) (by omega) (fun u hu => (make1 bs hB (d - 1) (by omega) (by omega) u (by omega)).mono (by omega) (by omega) (by omega) (by omega))
theorem make3 (bs : List Int) (hB : Bs bs) (d : Int) (h0 : -700 ≤ d) (h1 : d ≤ 1) (t : T) (ht : t.depth ≤ 3) : MakeC bs d t 5 896000000 910 210 :=
  l3MakeB bs hB d (by omega) (by omega) h1 t (by omega) 5 896000000 390 90 (by omega) (by omega) (fun u hu => (make2 bs hB (d - 1) (by omega) (by omega) u (by omega)).mono (by omega) (by omega) (by omega) (by omega))
theorem make4 (bs : List Int) (hB : Bs bs) (d : Int) (h0 : -600 ≤ d) (h1 : d ≤ 1) (t : T) (ht : t.depth ≤ 4) : MakeC bs d t 4 895000000 1950 450 :=
  l3MakeB bs hB d (by omega) (by omega) h1 t (by omega) 4 895000000 910 210 (by omega) (by omega) (fun u hu => (make3 bs hB (d - 1) (by omega) (by omega) u (by omega)).mono (by omega) (by omega) (by omega) (by omega))
theorem make5 (bs : List Int) (hB : Bs bs) (t : T) (ht : t.depth ≤ 4) : MakeC bs 2 t 3 894000000 5980 1380 :=
  have h : ∀ u : T, u.depth ≤ 4 → MakeC bs (2 - 1) u (3 + 1) (894000000 + 3 * 1950 + 200) 1950 450 := fun u hu => (make4 bs hB (2 - 1) (by omega) (by omega) u hu).mono (by omega) (by omega) (by omega) (by omega)
  l3MakeD bs hB 2 (by omega) (by omega) (by omega) t ht 3 894000000 1950 450 (by omega) (by omega) (fun u hu => h u (by omega)) (fun _ => h)
theorem make6 (bs : List Int) (hB : Bs bs) (t : T) (ht : t.depth ≤ 4) : MakeC bs 3 t 2 893000000 18070 4170 :=
  have h : ∀ u : T, u.depth ≤ 4 → MakeC bs (3 - 1) u (2 + 1) (893000000 + 3 * 5980 + 200) 5980 1380 := fun u hu => (make5 bs hB u hu).mono (by omega) (by omega) (by omega) (by omega)
  l3MakeD bs hB 3 (by omega) (by omega) (by omega) t ht 2 893000000 5980 1380 (by omega) (by omega) (fun u hu => h u (by omega)) (fun _ => h)
theorem make7 (bs : List Int) (hB : Bs bs) (t : T) (ht : t.depth ≤ 4) : MakeC bs 4 t 1 892000000 54340 12540 :=
  have h : ∀ u : T, u.depth ≤ 4 → MakeC bs (4 - 1) u (1 + 1) (892000000 + 3 * 18070 + 200) 18070 4170 := fun u hu => (make6 bs hB u hu).mono (by omega) (by omega) (by omega) (by omega)
  l3MakeD bs hB 4 (by omega) (by omega) (by omega) t ht 1 892000000 18070 4170 (by omega) (by omega) (fun u hu => h u (by omega)) (fun _ => h)
theorem make8 (bs : List Int) (hB : Bs bs) (t : T) (ht : t.depth ≤ 4) : MakeC bs 5 t 0 891000000 163150 37650 :=
  have h : ∀ u : T, u.depth ≤ 4 → MakeC bs (5 - 1) u (0 + 1) (891000000 + 3 * 54340 + 200) 54340 12540 := fun u hu => (make7 bs hB u hu).mono (by omega) (by omega) (by omega) (by omega)
  l3MakeD bs hB 5 (by omega) (by omega) (by omega) t ht 0 891000000 54340 12540 (by omega) (by omega) (fun u hu => h u (by omega)) (fun _ => h)
theorem make9 (bs : List Int) (hB : Bs bs) (z : Int) (hz : z ∈ [4, 3, 5, 4]) (t : T) (ht : t.depth ≤ 4) (p : Nat) (hp : p < 890000000) :
    ACl Try.prog 79 [.one (.ptr 2 0 0 0), .one (.sl (bdR [])), .agg (tyC t.ty), .one (.sc (.int .i64 z))] [(⟨2, 83, .mut, [[.sl (byR bs), .sc (.int .i64 ((p : Nat) : Int))]]⟩ : Blk)] (DrawsE bs p 163150 37650) := by
  have h : MakeC bs z t 0 890000000 163150 37650 := by
    simp only [List.mem_cons, List.not_mem_nil, or_false] at hz
    rcases hz with rfl | rfl | rfl | rfl
    · exact (make7 bs hB t ht).mono (by omega) (by omega) (by omega) (by omega)
    · exact (make6 bs hB t ht).mono (by omega) (by omega) (by omega) (by omega)
    · exact (make8 bs hB t ht).mono (by omega) (by omega) (by omega) (by omega)
    · exact (make7 bs hB t ht).mono (by omega) (by omega) (by omega) (by omega)
  exact h [] (by simp) ctxOk_nil ctxN_nil p hp
theorem l3Typed (bs : List Int) (hB : Bs bs) (p : Nat) (hp : p < 700000000) : ACl Try.prog 30 [.one (.ptr 2 0 0 0)] [(⟨2, 83, .mut, [[.sl (byR bs), .sc (.int .i64 ((p : Nat) : Int))]]⟩ : Blk)] (DrawsE bs p 660000 37650) := by
  refine acl_in Try.func30 rfl isfn_30 (Nat.le_of_ble_eq_true rfl) (fun R hR => ?_); rw [Try.results30] at hR; refine wg_run ?_; (simp only [Try.f30, go_sem])
  refine wd_for [0, 2, 3] (fun (x : Nat × Nat) => [.one (.ptr 2 0 0 0), .one (.ptr 9 1 0 0), .one (.sc (.int .i64 (x.1 : Nat)))])
    (fun x => [(⟨2, 83, .mut, [[.sl (byR bs), .sc (.int .i64 ((x.2 : Nat) : Int))]]⟩ : Blk), ⟨9, 28, .mut, [[.sc (.int .i64 0), .sc (.string { data := { toList := [] } }), .sc (.int .i64 0), .sc (.int .i64 0), .sc (.slice none 0 0), .sc (.int .i64 0), .sc (.slice none 0 0), .sc (.int .i64 0), .sc (.slice none 0 0)]]⟩])
    (fun x => x.1 ≤ 4 ∧ x.2 ≤ p + x.1 * 163300) (fun x => 4 - x.1) (0, p) ⟨by omega, by omega⟩ (hat [1] (hI := ⟨rfl, rfl⟩)) ?_
  rintro ⟨i, q⟩ ⟨hi, hq⟩ G hG
  simp only [] at hi hq
  refine wg_run ?_
  by_cases hi4 : i < 4
  · have d1 : decide ((i : Int) < 4) = true := by simp; omega
    have hw1 : IntKind.i64.wrap ((i : Int) + 1) = ((i + 1 : Nat) : Int) := by rw [IntWalk.i64_in _ (by omega)]; omega
    (simp only [go_sem, d1])
    repeat' (first | (first | (simp only [go_sem, d1]) | (((first | apply sp1 | apply sp2 | apply sp3 | apply sp4 | apply sp5 | apply sp6 | apply sp7) <;> intro hb) <;> (simp only [go_sem, hb, d1])) | ((first | apply wm_done | apply wt_done | apply wg_run | refine fk ?_ ?_) <;> (simp only [go_sem, d1]))) | fail)
    ((first | refine kdq [0] ?_ (hc := num bs hB _ (by omega) [1, 2, 2, 3] (by decide) (by decide)) | refine kmq [0] ?_ (hc := num bs hB _ (by omega) [1, 2, 2, 3] (by decide) (by decide)) | refine ktq [0] ?_ (hc := num bs hB _ (by omega) [1, 2, 2, 3] (by decide) (by decide))); rintro _ _ ⟨z, rfl, hz, rfl⟩; (simp only [go_sem]))
    repeat' (first | (first | (simp only [go_sem, d1]) | (((first | apply sp1 | apply sp2 | apply sp3 | apply sp4 | apply sp5 | apply sp6 | apply sp7) <;> intro hb) <;> (simp only [go_sem, hb, d1])) | ((first | apply wm_done | apply wt_done | apply wg_run | refine fk ?_ ?_) <;> (simp only [go_sem, d1]))) | fail)
    simp only [List.mem_cons, List.not_mem_nil, or_false] at hz
    obtain ⟨j, rfl, hj1, hj4⟩ : ∃ j : Nat, z = (j : Int) ∧ 1 ≤ j ∧ j ≤ 3 := ⟨z.toNat, by omega, by omega, by omega⟩
    ((first | refine kdq [0] ?_ (hc := l1Draw bs hB j hj1 (by omega) _ (by omega)) | refine kmq [0] ?_ (hc := l1Draw bs hB j hj1 (by omega) _ (by omega)) | refine ktq [0] ?_ (hc := l1Draw bs hB j hj1 (by omega) _ (by omega))); rintro _ _ ⟨x1, q1, rfl, hx1, hq1, rfl⟩; (simp only [go_sem]))
    repeat' (first | (first | (simp only [go_sem, d1]) | (((first | apply sp1 | apply sp2 | apply sp3 | apply sp4 | apply sp5 | apply sp6 | apply sp7) <;> intro hb) <;> (simp only [go_sem, hb, d1])) | ((first | apply wm_done | apply wt_done | apply wg_run | refine fk ?_ ?_) <;> (simp only [go_sem, d1]))) | fail)
    ((first | refine kdq [0] ?_ (hc := num bs hB _ (by omega) [4, 3, 5, 4] (by decide) (by decide)) | refine kmq [0] ?_ (hc := num bs hB _ (by omega) [4, 3, 5, 4] (by decide) (by decide)) | refine ktq [0] ?_ (hc := num bs hB _ (by omega) [4, 3, 5, 4] (by decide) (by decide))); rintro _ _ ⟨z, rfl, hz, rfl⟩; (simp only [go_sem]))
    repeat' (first | (first | (simp only [go_sem, d1]) | (((first | apply sp1 | apply sp2 | apply sp3 | apply sp4 | apply sp5 | apply sp6 | apply sp7) <;> intro hb) <;> (simp only [go_sem, hb, d1])) | ((first | apply wm_done | apply wt_done | apply wg_run | refine fk ?_ ?_) <;> (simp only [go_sem, d1]))) | fail)
    ((first | refine kdq [0] ?_ (hc := make9 bs hB z hz x1 (by omega) _ (by omega)) | refine kmq [0] ?_ (hc := make9 bs hB z hz x1 (by omega) _ (by omega)) | refine ktq [0] ?_ (hc := make9 bs hB z hz x1 (by omega) _ (by omega))); rintro _ _ ⟨e, q2, rfl, he, hc, hs, hq2, rfl⟩; (simp only [go_sem]))
    have ht := sTypeOf e he hc (by omega)
    repeat' (first | (first | (simp only [go_sem, d1]) | (((first | apply sp1 | apply sp2 | apply sp3 | apply sp4 | apply sp5 | apply sp6 | apply sp7) <;> intro hb) <;> (simp only [go_sem, hb, d1])) | ((first | apply wm_done | apply wt_done | apply wg_run | refine fk ?_ ?_) <;> (simp only [go_sem, d1]))) | ((first | refine kdq [] ?_ (hc := ht) | refine kmq [] ?_ (hc := ht) | refine ktq [] ?_ (hc := ht)); rintro _ _ (⟨t, et, rfl, rfl⟩ | ⟨rfl, rfl⟩) <;> (simp only [go_sem])) | fail)
    · exact hR _ (rat [] (hK := ⟨e, q2, rfl, he, hc, hs, by omega, rfl⟩))
    · repeat' (first | (first | (simp only [go_sem, hw1]) | (((first | apply sp1 | apply sp2 | apply sp3 | apply sp4 | apply sp5 | apply sp6 | apply sp7) <;> intro hb) <;> (simp only [go_sem, hb, hw1])) | ((first | apply wm_done | apply wt_done | apply wg_run | refine fk ?_ ?_) <;> (simp only [go_sem, hw1]))) | fail)
      exact hG (i + 1, q2) _ _ ⟨by simp only []; omega, by simp only []; omega⟩ (by simp only []; omega) (hat [1] (hI := ⟨rfl, rfl⟩))
  · have d1 : decide ((i : Int) < 4) = false := by simp; omega
    clear hG
    (simp only [go_sem, d1])
    repeat' (first | (first | (simp only [go_sem, d1]) | (((first | apply sp1 | apply sp2 | apply sp3 | apply sp4 | apply sp5 | apply sp6 | apply sp7) <;> intro hb) <;> (simp only [go_sem, hb, d1])) | ((first | apply wm_done | apply wt_done | apply wg_run | refine fk ?_ ?_) <;> (simp only [go_sem, d1]))) | fail)
    ((first | refine kdq [0] ?_ (hc := l2Closed bs hB _ (by omega)) | refine kmq [0] ?_ (hc := l2Closed bs hB _ (by omega)) | refine ktq [0] ?_ (hc := l2Closed bs hB _ (by omega))); rintro _ _ ⟨e, q2, rfl, he, hc, hs, hq2, rfl⟩; (simp only [go_sem]))
    repeat' (first | (first | (((first | apply sp1 | apply sp2 | apply sp3 | apply sp4 | apply sp5 | apply sp6 | apply sp7) <;> intro hb) <;> (simp only [go_sem, hb])) | ((first | apply wm_done | apply wt_done | apply wg_run | refine fk ?_ ?_) <;> (simp only [go_sem]))) | fail)
    exact hR _ (rat [] (hK := ⟨e, q2, rfl, he, hc, by omega, by omega, rfl⟩))
end Go.Proofs.Ytnaebafafhamjaa
/- The reference's draws of terms with casts. On shadows. -/
namespace Go.Proofs.Ytnaebafafhamjaa
open Go.RowKit Go.Proofs.Sh Go.Proofs.Grad
set_option maxRecDepth 100000
set_option maxHeartbeats 16000000
theorem l4Random (bs : List Int) (hB : Bs bs) (p : Nat) (hp : p < 690000000) : ACl Try.prog 107 [.one (.ptr 2 0 0 0)] [(⟨2, 83, .mut, [[.sl (byR bs), .sc (.int .i64 ((p : Nat) : Int))]]⟩ : Blk)] (DrawsX bs p 661000 4600000) := by
  have h0 := l3Typed bs hB p (by omega)
  refine acl_in Try.func107 rfl isfn_107 (Nat.le_of_ble_eq_true rfl) (fun R hR => ?_); rw [Try.results107] at hR; refine wg_run ?_; (simp only [Try.f107, go_sem])
  repeat' (first | (first | (((first | apply sp1 | apply sp2 | apply sp3 | apply sp4 | apply sp5 | apply sp6 | apply sp7) <;> intro hb) <;> (simp only [go_sem, hb])) | ((first | apply wm_done | apply wt_done | apply wg_run | refine fk ?_ ?_) <;> (simp only [go_sem]))) | fail)
  ((first | refine kdq [0] ?_ (hc := h0) | refine kmq [0] ?_ (hc := h0) | refine ktq [0] ?_ (hc := h0)); rintro _ _ ⟨e, q, rfl, he, hc, hs, hq, rfl⟩; (simp only [go_sem]))
  have hi := sInsertCasts e he hc (by omega)
  have hnd := E.nodes_tm e
  repeat' (first | (first | (((first | apply sp1 | apply sp2 | apply sp3 | apply sp4 | apply sp5 | apply sp6 | apply sp7) <;> intro hb) <;> (simp only [go_sem, hb])) | ((first | apply wm_done | apply wt_done | apply wg_run | refine fk ?_ ?_) <;> (simp only [go_sem]))) | ((first | refine kdq [] ?_ (hc := hi) | refine kmq [] ?_ (hc := hi) | refine ktq [] ?_ (hc := hi)); rintro _ _ (⟨x, t, rfl, hx, ht, rfl⟩ | ⟨rfl, rfl⟩) <;> (simp only [go_sem])) | fail)
  · ((first | refine kdq [0] ?_ (hc := pick bs hB _ (by omega) 3 (by omega) (by omega)) | refine kmq [0] ?_ (hc := pick bs hB _ (by omega) 3 (by omega) (by omega)) | refine ktq [0] ?_ (hc := pick bs hB _ (by omega) 3 (by omega) (by omega))); rintro _ _ ⟨z, rfl, hz, hz1, rfl⟩; (simp only [go_sem]))
    obtain ⟨i0, rfl⟩ := Int.eq_ofNat_of_zero_le hz
    have hi0 : i0 ≤ 2 := by omega
    clear hz1
    refine wd_for [0, 2, 3, 4, 6] (fun (y : Nat × Nat × Tm × T) => [.one (.ptr 2 0 0 0), .one (.ptr 9 1 0 0), .one (.ptr 9 2 0 0), .one (.ptr 2 3 0 0), .one (.sc (.int .i64 (y.1 : Nat)))])
      (fun y => [(⟨2, 83, .mut, [[.sl (byR bs), .sc (.int .i64 ((y.2.1 : Nat) : Int))]]⟩ : Blk), ⟨9, 28, .mut, [[.sc (.int .i64 0), .sc (.string { data := { toList := [] } }), .sc (.int .i64 0), .sc (.int .i64 0), .sc (.slice none 0 0), .sc (.int .i64 0), .sc (.slice none 0 0), .sc (.int .i64 0), .sc (.slice none 0 0)]]⟩, ⟨9, 28, .mut, [teC y.2.2.1]⟩, ⟨2, 25, .mut, [tyC y.2.2.2.ty]⟩])
      (fun y => y.1 ≤ 2 ∧ y.2.1 + y.1 * 100 ≤ q + 201 ∧ y.2.2.1.size + y.1 * 31 ≤ 4590000 ∧ y.2.2.2.depth ≤ 4) (fun y => y.1) (i0, q + 1, x, t) ⟨hi0, by first | omega | (simp only []; omega), by first | omega | (simp only []; omega), ht⟩ (hat [1, 2, 3] (hI := ⟨rfl, rfl⟩)) ?_
    clear hx ht hi h0
    rintro ⟨i, q1, x, t⟩ ⟨hi, hq1, hx, ht⟩ G hG
    simp only [] at hi hq1 hx ht
    refine wg_run ?_
    rcases i with _ | i
    · clear hG
      (simp only [go_sem])
      repeat' (first | (first | (((first | apply sp1 | apply sp2 | apply sp3 | apply sp4 | apply sp5 | apply sp6 | apply sp7) <;> intro hb) <;> (simp only [go_sem, hb])) | ((first | apply wm_done | apply wt_done | apply wg_run | refine fk ?_ ?_) <;> (simp only [go_sem]))) | fail)
      exact hR _ (rat [] (hK := ⟨x, q1, rfl, by omega, by omega, rfl⟩))
    · have d1 : decide (((i + 1 : Nat) : Int) > 0) = true := decide_eq_true (by omega)
      have hw1 : IntKind.i64.wrap (((i + 1 : Nat) : Int) - 1) = (i : Int) := by rw [IntWalk.i64_in _ (by omega)]; omega
      have hw5 : IntKind.i64.wrap (50 + ((i + 1 : Nat) : Int)) = ((51 + i : Nat) : Int) := by rw [IntWalk.i64_in _ (by omega)]; omega
      have hw6 : IntKind.i64.wrap (0 - ((51 + i : Nat) : Int)) = -((51 + i : Nat) : Int) := by rw [IntWalk.i64_in _ (by omega)]; omega
      have hts := tys 4 t ht
      (simp only [go_sem, d1])
      repeat' (first | (first | (simp only [go_sem, d1]) | (((first | apply sp1 | apply sp2 | apply sp3 | apply sp4 | apply sp5 | apply sp6 | apply sp7) <;> intro hb) <;> (simp only [go_sem, hb, d1])) | ((first | apply wm_done | apply wt_done | apply wg_run | refine fk ?_ ?_) <;> (simp only [go_sem, d1]))) | fail)
      ((first | refine kdq [0] ?_ (hc := l1BlurS bs hB t _ (by omega)) | refine kmq [0] ?_ (hc := l1BlurS bs hB t _ (by omega)) | refine ktq [0] ?_ (hc := l1BlurS bs hB t _ (by omega))); rintro _ _ ⟨u0, q2, rfl, hu0, hq2, rfl⟩; (simp only [go_sem]))
      repeat' (first | (first | (simp only [go_sem, d1]) | (((first | apply sp1 | apply sp2 | apply sp3 | apply sp4 | apply sp5 | apply sp6 | apply sp7) <;> intro hb) <;> (simp only [go_sem, hb, d1])) | ((first | apply wm_done | apply wt_done | apply wg_run | refine fk ?_ ?_) <;> (simp only [go_sem, d1]))) | fail)
      ((first | refine kdq [0] ?_ (hc := pick bs hB _ (by omega) 2 (by omega) (by omega)) | refine kmq [0] ?_ (hc := pick bs hB _ (by omega) 2 (by omega) (by omega)) | refine ktq [0] ?_ (hc := pick bs hB _ (by omega) 2 (by omega) (by omega))); rintro _ _ ⟨z2, rfl, hz2, hz2b, rfl⟩; (simp only [go_sem]))
      obtain ⟨q3, hq3⟩ : ∃ q3, q3 = q2 + 1 := ⟨_, rfl⟩
      rw [← hq3]
      have fin : ∀ (u : T), u.depth ≤ 4 → ∀ n : Int, -100 ≤ n → n ≤ 100 → (casT x t u n).1.size ≤ x.size + 31 := fun u hu n _ _ => (casT_size x ht hu n).1
      have lc : ∀ (u : T), u.depth ≤ 4 → ∀ n : Int, -100 ≤ n → n ≤ 100 → _ := fun u hu n h1 h2 => l4Cast x t u ht hu n (by omega) (by omega)
      repeat' (first | (first | (simp only [go_sem, d1]) | (((first | apply sp1 | apply sp2 | apply sp3 | apply sp4 | apply sp5 | apply sp6 | apply sp7) <;> intro hb) <;> (simp only [go_sem, hb, d1])) | ((first | apply wm_done | apply wt_done | apply wg_run | refine fk ?_ ?_) <;> (simp only [go_sem, d1]))) | fail)
      · ((first | refine kdq [0] ?_ (hc := l1Type bs hB _ (by omega)) | refine kmq [0] ?_ (hc := l1Type bs hB _ (by omega)) | refine ktq [0] ?_ (hc := l1Type bs hB _ (by omega))); rintro _ _ ⟨u, q4, rfl, hu, hq4, rfl⟩; (simp only [go_sem]))
        have hcs := sConsT t u
        repeat' (first | (first | (simp only [go_sem, d1]) | (((first | apply sp1 | apply sp2 | apply sp3 | apply sp4 | apply sp5 | apply sp6 | apply sp7) <;> intro hb) <;> (simp only [go_sem, hb, d1])) | ((first | apply wm_done | apply wt_done | apply wg_run | refine fk ?_ ?_) <;> (simp only [go_sem, d1]))) | (first | refine cdq ?_ (hc := hcs) | refine cmq ?_ (hc := hcs) | refine ctq ?_ (hc := hcs)); (simp only [go_sem]) | fail)
        · ((first | refine kdq [0] ?_ (hc := pick bs hB _ (by omega) 3 (by omega) (by omega)) | refine kmq [0] ?_ (hc := pick bs hB _ (by omega) 3 (by omega) (by omega)) | refine ktq [0] ?_ (hc := pick bs hB _ (by omega) 3 (by omega) (by omega))); rintro _ _ ⟨z3, rfl, hz3, hz3b, rfl⟩; (simp only [go_sem]))
          (simp only [go_sem, hw5])
          repeat' (first | (first | (simp only [go_sem, hw5, hw6]) | (((first | apply sp1 | apply sp2 | apply sp3 | apply sp4 | apply sp5 | apply sp6 | apply sp7) <;> intro hb) <;> (simp only [go_sem, hb, hw5, hw6])) | ((first | apply wm_done | apply wt_done | apply wg_run | refine fk ?_ ?_) <;> (simp only [go_sem, hw5, hw6]))) | (first | refine cdq ?_ (hc := lc u hu _ (by omega) (by omega)) | refine cmq ?_ (hc := lc u hu _ (by omega) (by omega)) | refine ctq ?_ (hc := lc u hu _ (by omega) (by omega))); (simp only [go_sem]) | fail)
          all_goals repeat' (first | (first | (simp only [go_sem, hw1]) | (((first | apply sp1 | apply sp2 | apply sp3 | apply sp4 | apply sp5 | apply sp6 | apply sp7) <;> intro hb) <;> (simp only [go_sem, hb, hw1])) | ((first | apply wm_done | apply wt_done | apply wg_run | refine fk ?_ ?_) <;> (simp only [go_sem, hw1]))) | fail)
          · exact hG (i, q4 + 1, (casT x t u (-((51 + i : Nat) : Int))).1, u) _ _ ⟨by first | omega | (simp only []; omega), by first | omega | (simp only []; omega), by have := fin u hu (-((51 + i : Nat) : Int)) (by omega) (by omega); first | omega | (simp only []; omega), hu⟩ (by first | omega | (simp only []; omega)) (hat [1, 2, 3] (hI := ⟨rfl, rfl⟩))
          · exact hG (i, q4 + 1, (casT x t u ((51 + i : Nat) : Int)).1, u) _ _ ⟨by first | omega | (simp only []; omega), by first | omega | (simp only []; omega), by have := fin u hu ((51 + i : Nat) : Int) (by omega) (by omega); first | omega | (simp only []; omega), hu⟩ (by first | omega | (simp only []; omega)) (hat [1, 2, 3] (hI := ⟨rfl, rfl⟩))
        · repeat' (first | (first | (simp only [go_sem, hw1]) | (((first | apply sp1 | apply sp2 | apply sp3 | apply sp4 | apply sp5 | apply sp6 | apply sp7) <;> intro hb) <;> (simp only [go_sem, hb, hw1])) | ((first | apply wm_done | apply wt_done | apply wg_run | refine fk ?_ ?_) <;> (simp only [go_sem, hw1]))) | fail)
          exact hG (i, q4, x, t) _ _ ⟨by first | omega | (simp only []; omega), by first | omega | (simp only []; omega), by first | omega | (simp only []; omega), ht⟩ (by first | omega | (simp only []; omega)) (hat [1, 2, 3] (hI := ⟨rfl, rfl⟩))
      · have hu : u0.depth ≤ 4 := by omega
        have hcs := sConsT t u0
        repeat' (first | (first | (simp only [go_sem, d1]) | (((first | apply sp1 | apply sp2 | apply sp3 | apply sp4 | apply sp5 | apply sp6 | apply sp7) <;> intro hb) <;> (simp only [go_sem, hb, d1])) | ((first | apply wm_done | apply wt_done | apply wg_run | refine fk ?_ ?_) <;> (simp only [go_sem, d1]))) | (first | refine cdq ?_ (hc := hcs) | refine cmq ?_ (hc := hcs) | refine ctq ?_ (hc := hcs)); (simp only [go_sem]) | fail)
        · ((first | refine kdq [0] ?_ (hc := pick bs hB _ (by omega) 3 (by omega) (by omega)) | refine kmq [0] ?_ (hc := pick bs hB _ (by omega) 3 (by omega) (by omega)) | refine ktq [0] ?_ (hc := pick bs hB _ (by omega) 3 (by omega) (by omega))); rintro _ _ ⟨z3, rfl, hz3, hz3b, rfl⟩; (simp only [go_sem]))
          (simp only [go_sem, hw5])
          repeat' (first | (first | (simp only [go_sem, hw5, hw6]) | (((first | apply sp1 | apply sp2 | apply sp3 | apply sp4 | apply sp5 | apply sp6 | apply sp7) <;> intro hb) <;> (simp only [go_sem, hb, hw5, hw6])) | ((first | apply wm_done | apply wt_done | apply wg_run | refine fk ?_ ?_) <;> (simp only [go_sem, hw5, hw6]))) | (first | refine cdq ?_ (hc := lc u0 hu _ (by omega) (by omega)) | refine cmq ?_ (hc := lc u0 hu _ (by omega) (by omega)) | refine ctq ?_ (hc := lc u0 hu _ (by omega) (by omega))); (simp only [go_sem]) | fail)
          all_goals repeat' (first | (first | (simp only [go_sem, hw1]) | (((first | apply sp1 | apply sp2 | apply sp3 | apply sp4 | apply sp5 | apply sp6 | apply sp7) <;> intro hb) <;> (simp only [go_sem, hb, hw1])) | ((first | apply wm_done | apply wt_done | apply wg_run | refine fk ?_ ?_) <;> (simp only [go_sem, hw1]))) | fail)
          · exact hG (i, q3 + 1, (casT x t u0 (-((51 + i : Nat) : Int))).1, u0) _ _ ⟨by first | omega | (simp only []; omega), by first | omega | (simp only []; omega), by have := fin u0 hu (-((51 + i : Nat) : Int)) (by omega) (by omega); first | omega | (simp only []; omega), hu⟩ (by first | omega | (simp only []; omega)) (hat [1, 2, 3] (hI := ⟨rfl, rfl⟩))
          · exact hG (i, q3 + 1, (casT x t u0 ((51 + i : Nat) : Int)).1, u0) _ _ ⟨by first | omega | (simp only []; omega), by first | omega | (simp only []; omega), by have := fin u0 hu ((51 + i : Nat) : Int) (by omega) (by omega); first | omega | (simp only []; omega), hu⟩ (by first | omega | (simp only []; omega)) (hat [1, 2, 3] (hI := ⟨rfl, rfl⟩))
        · repeat' (first | (first | (simp only [go_sem, hw1]) | (((first | apply sp1 | apply sp2 | apply sp3 | apply sp4 | apply sp5 | apply sp6 | apply sp7) <;> intro hb) <;> (simp only [go_sem, hb, hw1])) | ((first | apply wm_done | apply wt_done | apply wg_run | refine fk ?_ ?_) <;> (simp only [go_sem, hw1]))) | fail)
          exact hG (i, q3, x, t) _ _ ⟨by first | omega | (simp only []; omega), by first | omega | (simp only []; omega), by first | omega | (simp only []; omega), ht⟩ (by first | omega | (simp only []; omega)) (hat [1, 2, 3] (hI := ⟨rfl, rfl⟩))
  · have h6 := l2NumS 6
    repeat' (first | (first | (((first | apply sp1 | apply sp2 | apply sp3 | apply sp4 | apply sp5 | apply sp6 | apply sp7) <;> intro hb) <;> (simp only [go_sem, hb])) | ((first | apply wm_done | apply wt_done | apply wg_run | refine fk ?_ ?_) <;> (simp only [go_sem]))) | (first | refine cdq ?_ (hc := h6) | refine cmq ?_ (hc := h6) | refine ctq ?_ (hc := h6)); (simp only [go_sem]) | fail)
    exact hR _ (rat [] (hK := ⟨(E.num 6).tm, q, rfl, by simp [E.tm, Tm.size, Tm.sizes, noTy, Ty.size, Ty.sizes], by omega, rfl⟩))
theorem l4Mutate (bs : List Int) (hB : Bs bs) (p : Nat) (hp : p < 695000000) (t : Tm) (ht : t.size < 9000000) : ACl Try.prog 110 [.one (.ptr 2 0 0 0), .agg (teC t)] [(⟨2, 83, .mut, [[.sl (byR bs), .sc (.int .i64 ((p : Nat) : Int))]]⟩ : Blk)] (DrawsX bs p 100 (t.size + 200)) := by
  have h0 := l2Mutate bs hB p (by omega) t (by omega)
  refine acl_in Try.func110 rfl isfn_110 (Nat.le_of_ble_eq_true rfl) (fun R hR => ?_); rw [Try.results110] at hR; refine wg_run ?_; (simp only [Try.f110, go_sem])
  repeat' (first | (first | (((first | apply sp1 | apply sp2 | apply sp3 | apply sp4 | apply sp5 | apply sp6 | apply sp7) <;> intro hb) <;> (simp only [go_sem, hb])) | ((first | apply wm_done | apply wt_done | apply wg_run | refine fk ?_ ?_) <;> (simp only [go_sem]))) | fail)
  ((first | refine kdq [0] ?_ (hc := h0) | refine kmq [0] ?_ (hc := h0) | refine ktq [0] ?_ (hc := h0)); rintro _ _ ⟨t1, q, rfl, ht1, hq, rfl⟩; (simp only [go_sem]))
  have et := teC_eq t1
  have e : t1.size = 1 + (t1.type.size + t1.frm.size + Tm.sizes t1.kids) := by cases t1; rfl
  repeat' (first | (first | (((first | apply sp1 | apply sp2 | apply sp3 | apply sp4 | apply sp5 | apply sp6 | apply sp7) <;> intro hb) <;> (simp only [go_sem, hb])) | ((first | apply wm_done | apply wt_done | apply wg_run | refine fk ?_ ?_) <;> (simp only [go_sem]))) | fail)
  ((first | refine kdq [0] ?_ (hc := pick bs hB _ (by omega) 40 (by omega) (by omega)) | refine kmq [0] ?_ (hc := pick bs hB _ (by omega) 40 (by omega) (by omega)) | refine ktq [0] ?_ (hc := pick bs hB _ (by omega) 40 (by omega) (by omega))); rintro _ _ ⟨z, rfl, hz, hz1, rfl⟩; (simp only [go_sem]))
  repeat' (first | (first | (simp only [go_sem, et]) | (((first | apply sp1 | apply sp2 | apply sp3 | apply sp4 | apply sp5 | apply sp6 | apply sp7) <;> intro hb) <;> (simp only [go_sem, hb, et])) | ((first | apply wm_done | apply wt_done | apply wg_run | refine fk ?_ ?_) <;> (simp only [go_sem, et]))) | fail)
  · ((first | refine kdq [0] ?_ (hc := num bs hB _ (by omega) [0, 100, -9223372036854775808, 3] (by decide) (by decide)) | refine kmq [0] ?_ (hc := num bs hB _ (by omega) [0, 100, -9223372036854775808, 3] (by decide) (by decide)) | refine ktq [0] ?_ (hc := num bs hB _ (by omega) [0, 100, -9223372036854775808, 3] (by decide) (by decide))); rintro _ _ ⟨y, rfl, hy, rfl⟩; (simp only [go_sem]))
    repeat' (first | (first | (simp only [go_sem, et]) | (((first | apply sp1 | apply sp2 | apply sp3 | apply sp4 | apply sp5 | apply sp6 | apply sp7) <;> intro hb) <;> (simp only [go_sem, hb, et])) | ((first | apply wm_done | apply wt_done | apply wg_run | refine fk ?_ ?_) <;> (simp only [go_sem, et]))) | ((first | refine mxq6 [] ?_ | refine mxq5 [] ?_ | refine mxq4 [] ?_ | refine mxq3 [] ?_ | refine mxq2 [] ?_ | refine mxq1 [] ?_ | refine mxq0 [] ?_ | fail); (simp only [go_sem, et])) | fail)
    exact hR _ (rat [] (hK := ⟨.mk t1.kind t1.name t1.num t1.type t1.frm y t1.kids, q + 2, by rw [teC_eq]; rfl, by simp only [Tm.size]; omega, by omega, rfl⟩))
  · ((first | refine kdq [0] ?_ (hc := l1Type bs hB _ (by omega)) | refine kmq [0] ?_ (hc := l1Type bs hB _ (by omega)) | refine ktq [0] ?_ (hc := l1Type bs hB _ (by omega))); rintro _ _ ⟨x1, q1, rfl, hx1, hq1, rfl⟩; (simp only [go_sem]))
    have hx9 := tys 4 x1 hx1
    have hm := l1Mutate bs hB q1 (by omega) x1.ty (by rw [T.ty_size]; omega)
    repeat' (first | (first | (simp only [go_sem, et]) | (((first | apply sp1 | apply sp2 | apply sp3 | apply sp4 | apply sp5 | apply sp6 | apply sp7) <;> intro hb) <;> (simp only [go_sem, hb, et])) | ((first | apply wm_done | apply wt_done | apply wg_run | refine fk ?_ ?_) <;> (simp only [go_sem, et]))) | fail)
    ((first | refine kdq [0] ?_ (hc := hm) | refine kmq [0] ?_ (hc := hm) | refine ktq [0] ?_ (hc := hm)); rintro _ _ ⟨y, q2, rfl, hy, hq2, rfl⟩; (simp only [go_sem]))
    rw [T.ty_size] at hy
    repeat' (first | (first | (simp only [go_sem, et]) | (((first | apply sp1 | apply sp2 | apply sp3 | apply sp4 | apply sp5 | apply sp6 | apply sp7) <;> intro hb) <;> (simp only [go_sem, hb, et])) | ((first | apply wm_done | apply wt_done | apply wg_run | refine fk ?_ ?_) <;> (simp only [go_sem, et]))) | ((first | refine mxq6 [] ?_ | refine mxq5 [] ?_ | refine mxq4 [] ?_ | refine mxq3 [] ?_ | refine mxq2 [] ?_ | refine mxq1 [] ?_ | refine mxq0 [] ?_ | fail); (simp only [go_sem, et])) | fail)
    exact hR _ (rat [] (hK := ⟨.mk t1.kind t1.name t1.num t1.type y t1.label t1.kids, q2, by rw [teC_eq]; rfl, by simp only [Tm.size]; omega, by omega, rfl⟩))
  · repeat' (first | (first | (simp only [go_sem, et]) | (((first | apply sp1 | apply sp2 | apply sp3 | apply sp4 | apply sp5 | apply sp6 | apply sp7) <;> intro hb) <;> (simp only [go_sem, hb, et])) | ((first | apply wm_done | apply wt_done | apply wg_run | refine fk ?_ ?_) <;> (simp only [go_sem, et]))) | fail)
    exact hR _ (rat [] (hK := ⟨t1, q + 1, by rw [teC_eq], by omega, by omega, rfl⟩))
/-- a term, not too large -/
def OneX (r : AV) (H' : List Blk) : Prop := ∃ x : Tm, r = .agg (teC x) ∧ x.size ≤ 5000000 ∧ H' = []
end Go.Proofs.Ytnaebafafhamjaa
/- Terms: sameness, in the program; on shadows. -/
namespace Go.Proofs.Ytnaebafafhamjaa
open Go.RowKit Go.Proofs.Sh Go.Proofs.Grad
set_option maxRecDepth 100000
set_option maxHeartbeats 8000000
theorem iTmSame (n : Nat) (hn : n ≤ 4611686018427387904) : ∀ a b : Tm, a.size < n → AFn Try.prog 11 [.agg (teC a), .agg (teC b)] (.one (.sc (.bool (a.same b)))) := by
  induction n with
  | zero => intro a b h; omega
  | succ n ih =>
    intro a b h
    have hl := telen_lt a
    have hk : ∀ k, k < a.kids.length → k < b.kids.length → AFn Try.prog 11 [.agg (teC (teKid a.kids k)), .agg (teC (teKid b.kids k))] (.one (.sc (.bool ((teKid a.kids k).same (teKid b.kids k))))) := fun k h1 h2 => ih (by omega) _ _ (by have := teKid_lt h1; omega)
    have hf := teEqFunc _ Tm.same a.kids b.kids (by omega) hk
    have h1 := iSame 4611686018427387904 (by omega) a.type b.type (by cases a; simp only [Tm.size, Tm.type] at *; omega)
    have h2 := iSame 4611686018427387904 (by omega) a.frm b.frm (by cases a; simp only [Tm.size, Tm.frm] at *; omega)
    clear hk ih
    have e : a.same b = (a.kind == b.kind && (a.name.toList == b.name.toList && (a.num == b.num && (a.type.same b.type && (a.frm.same b.frm && (a.label == b.label && teall2 Tm.same a.kids b.kids)))))) := by
      cases a; cases b; rw [← tesames_all2]; simp only [Tm.same, Tm.kind, Tm.name, Tm.num, Tm.type, Tm.frm, Tm.label, Tm.kids, Bool.and_assoc]
    rw [e]
    refine fn_in ?_; refine acl_in Try.func11 rfl isfn_11 (Nat.le_of_ble_eq_true rfl) (fun R hR => ?_); rw [Try.results11] at hR; refine wg_run ?_; (simp only [Try.f11, go_sem])
    repeat' (first | (first | (((first | apply sp1 | apply sp2 | apply sp3 | apply sp4 | apply sp5 | apply sp6 | apply sp7) <;> intro hb) <;> (simp only [go_sem, hb])) | ((first | apply wm_done | apply wt_done | apply wg_run | refine fk ?_ ?_) <;> (simp only [go_sem]))) | (first | refine cdq ?_ (hc := h1) | refine cmq ?_ (hc := h1) | refine ctq ?_ (hc := h1)); (simp only [go_sem]) | (first | refine cdq ?_ (hc := h2) | refine cmq ?_ (hc := h2) | refine ctq ?_ (hc := h2)); (simp only [go_sem]) | (first | refine cdq ?_ (hc := hf) | refine cmq ?_ (hc := hf) | refine ctq ?_ (hc := hf)); (simp only [go_sem]) | ((first | refine mxq6 [] ?_ | refine mxq5 [] ?_ | refine mxq4 [] ?_ | refine mxq3 [] ?_ | refine mxq2 [] ?_ | refine mxq1 [] ?_ | refine mxq0 [] ?_ | fail); (simp only [go_sem])))
    all_goals (refine hR _ (rat [] (hK := ⟨?_, rfl⟩)))
    all_goals (clear hR h1 h2 hf; simp_all)
end Go.Proofs.Ytnaebafafhamjaa
/- Simplifying twice changes no more. On shadows. -/
namespace Go.Proofs.Ytnaebafafhamjaa
open Go.RowKit Go.Proofs.Sh Go.Proofs.Grad
set_option maxRecDepth 100000
set_option maxHeartbeats 16000000
theorem sCastN (t : Tm) (f y : Ty) (l : Int) (hf : f.size < 1000) (hy : y.size < 1000) : AFn Try.prog 109 [.agg (teC t), .agg (tyC f), .agg (tyC y), .one (.sc (.int .i64 l))] (.agg (teC (.mk 14 ByteArray.empty 0 y f l [t]))) := by
  have h1 := l1Copy 1000 (by omega) f hf
  have h2 := l1Copy 1000 (by omega) y hy
  refine fn_in ?_; refine acl_in Try.func109 rfl isfn_109 (Nat.le_of_ble_eq_true rfl) (fun R hR => ?_); rw [Try.results109] at hR; refine wg_run ?_; (simp only [Try.f109, go_sem])
  repeat' (first | (first | (((first | apply sp1 | apply sp2 | apply sp3 | apply sp4 | apply sp5 | apply sp6 | apply sp7) <;> intro hb) <;> (simp only [go_sem, hb])) | ((first | apply wm_done | apply wt_done | apply wg_run | refine fk ?_ ?_) <;> (simp only [go_sem]))) | (first | (refine tr (.op 0 false (.op 2 false (.op 4 false (.op 5 false (.fork 1 false (.fork 3 false (.op 6 false (.op 7 false (.op 8 true .nil))) (.op 6 false (.op 3 false (.op 7 false (.op 8 true .nil))))) (.op 6 false (.op 1 false (.op 3 false (.op 7 false (.op 8 true .nil)))))))))) [] follows ?_; (simp only [go_sem])) | fail) | ((first | refine mxq6 [] ?_ | refine mxq5 [] ?_ | refine mxq4 [] ?_ | refine mxq3 [] ?_ | refine mxq2 [] ?_ | refine mxq1 [] ?_ | refine mxq0 [] ?_ | fail); (simp only [go_sem])) | (first | refine cdq ?_ (hc := h1) | refine cmq ?_ (hc := h1) | refine ctq ?_ (hc := h1)); (simp only [go_sem]) | (first | refine cdq ?_ (hc := h2) | refine cmq ?_ (hc := h2) | refine ctq ?_ (hc := h2)); (simp only [go_sem]) | fail)
  all_goals (refine hR _ ?_; refine rat [] (hK := ⟨rfl, rfl⟩))
theorem l12Draw (bs : List Int) (hB : Bs bs) (p : Nat) (hp : p < 680000000) : ACl Try.prog 64 [.one (.ptr 2 0 0 0)] [(⟨2, 83, .mut, [[.sl (byR bs), .sc (.int .i64 ((p : Nat) : Int))]]⟩ : Blk)] (DrawsX bs p 661200 4610000) := by
  have h0 := l4Random bs hB p (by omega)
  have hA := l1Any
  refine acl_in Try.func64 rfl isfn_64 (Nat.le_of_ble_eq_true rfl) (fun R hR => ?_); rw [Try.results64] at hR; refine wg_run ?_; (simp only [Try.f64, go_sem])
  repeat' (first | (first | (((first | apply sp1 | apply sp2 | apply sp3 | apply sp4 | apply sp5 | apply sp6 | apply sp7) <;> intro hb) <;> (simp only [go_sem, hb])) | ((first | apply wm_done | apply wt_done | apply wg_run | refine fk ?_ ?_) <;> (simp only [go_sem]))) | fail)
  ((first | refine kdq [0] ?_ (hc := h0) | refine kmq [0] ?_ (hc := h0) | refine ktq [0] ?_ (hc := h0)); rintro _ _ ⟨x, q, rfl, hx, hq, rfl⟩; (simp only [go_sem]))
  have h1 := sCastTypeOf x (by omega)
  have hanyz : T.any.ty.size < 1000 := by simp [T.ty, Ty.size, Ty.sizes]
  have fin : ∀ (y : Tm) (n : Nat), y.size ≤ 4600000 + n → n ≤ 100 → ∀ q2 : Nat, q2 < 690000000 → ACl Try.prog 110 [.one (.ptr 2 0 0 0), .agg (teC y)] [(⟨2, 83, .mut, [[.sl (byR bs), .sc (.int .i64 ((q2 : Nat) : Int))]]⟩ : Blk)] (DrawsX bs q2 100 (y.size + 200)) := fun y n hy hn q2 hq2 => l4Mutate bs hB q2 (by omega) y (by omega)
  repeat' (first | (first | (((first | apply sp1 | apply sp2 | apply sp3 | apply sp4 | apply sp5 | apply sp6 | apply sp7) <;> intro hb) <;> (simp only [go_sem, hb])) | ((first | apply wm_done | apply wt_done | apply wg_run | refine fk ?_ ?_) <;> (simp only [go_sem]))) | ((first | refine kdq [] ?_ (hc := h1) | refine kmq [] ?_ (hc := h1) | refine ktq [] ?_ (hc := h1)); rintro _ _ (⟨t, et, ht, rfl, rfl⟩ | ⟨et, rfl, rfl⟩) <;> (simp only [go_sem])) | fail)
  · have htz := T.ty_size16 ht
    ((first | refine kdq [0] ?_ (hc := pick bs hB _ (by omega) 2 (by omega) (by omega)) | refine kmq [0] ?_ (hc := pick bs hB _ (by omega) 2 (by omega) (by omega)) | refine ktq [0] ?_ (hc := pick bs hB _ (by omega) 2 (by omega) (by omega))); rintro _ _ ⟨z, rfl, hz, hz1, rfl⟩; (simp only [go_sem]))
    repeat' (first | (first | (((first | apply sp1 | apply sp2 | apply sp3 | apply sp4 | apply sp5 | apply sp6 | apply sp7) <;> intro hb) <;> (simp only [go_sem, hb])) | ((first | apply wm_done | apply wt_done | apply wg_run | refine fk ?_ ?_) <;> (simp only [go_sem]))) | (first | refine cdq ?_ (hc := sCastN x t.ty t.ty 61 (by omega) (by omega)) | refine cmq ?_ (hc := sCastN x t.ty t.ty 61 (by omega) (by omega)) | refine ctq ?_ (hc := sCastN x t.ty t.ty 61 (by omega) (by omega))); (simp only [go_sem]) | fail)
    all_goals
      ((first | refine kdq [0] ?_ (hc := pick bs hB _ (by omega) 2 (by omega) (by omega)) | refine kmq [0] ?_ (hc := pick bs hB _ (by omega) 2 (by omega) (by omega)) | refine ktq [0] ?_ (hc := pick bs hB _ (by omega) 2 (by omega) (by omega))); rintro _ _ ⟨z2, rfl, hz2, hz3, rfl⟩; (simp only [go_sem]))
      repeat' (first | (first | (((first | apply sp1 | apply sp2 | apply sp3 | apply sp4 | apply sp5 | apply sp6 | apply sp7) <;> intro hb) <;> (simp only [go_sem, hb])) | ((first | apply wm_done | apply wt_done | apply wg_run | refine fk ?_ ?_) <;> (simp only [go_sem]))) | (first | refine cdq ?_ (hc := hA) | refine cmq ?_ (hc := hA) | refine ctq ?_ (hc := hA)); (simp only [go_sem]) | ((first | refine mxq6 [0] ?_ | refine mxq5 [0] ?_ | refine mxq4 [0] ?_ | refine mxq3 [0] ?_ | refine mxq2 [0] ?_ | refine mxq1 [0] ?_ | refine mxq0 [0] ?_ | fail); (simp only [go_sem])) | (first | refine cdq ?_ (hc := sCastN _ t.ty T.any.ty 62 (by omega) hanyz) | refine cmq ?_ (hc := sCastN _ t.ty T.any.ty 62 (by omega) hanyz) | refine ctq ?_ (hc := sCastN _ t.ty T.any.ty 62 (by omega) hanyz)); (simp only [go_sem]) | (first | refine cdq ?_ (hc := sCastN _ T.any.ty t.ty 63 hanyz (by omega)) | refine cmq ?_ (hc := sCastN _ T.any.ty t.ty 63 hanyz (by omega)) | refine ctq ?_ (hc := sCastN _ T.any.ty t.ty 63 hanyz (by omega))); (simp only [go_sem]) | fail)
      all_goals first
        | (((first | refine kdq [0] ?_ (hc := fin (.mk 14 ByteArray.empty 0 t.ty T.any.ty 63 [.mk 14 ByteArray.empty 0 T.any.ty t.ty 62 [(.mk 14 ByteArray.empty 0 t.ty t.ty 61 [x])]]) 100 (by simp only [Tm.size, Tm.sizes, T.ty, Ty.size, Ty.sizes]; omega) (by omega) _ (by omega)) | refine kmq [0] ?_ (hc := fin (.mk 14 ByteArray.empty 0 t.ty T.any.ty 63 [.mk 14 ByteArray.empty 0 T.any.ty t.ty 62 [(.mk 14 ByteArray.empty 0 t.ty t.ty 61 [x])]]) 100 (by simp only [Tm.size, Tm.sizes, T.ty, Ty.size, Ty.sizes]; omega) (by omega) _ (by omega)) | refine ktq [0] ?_ (hc := fin (.mk 14 ByteArray.empty 0 t.ty T.any.ty 63 [.mk 14 ByteArray.empty 0 T.any.ty t.ty 62 [(.mk 14 ByteArray.empty 0 t.ty t.ty 61 [x])]]) 100 (by simp only [Tm.size, Tm.sizes, T.ty, Ty.size, Ty.sizes]; omega) (by omega) _ (by omega))); rintro _ _ ⟨y, q3, rfl, hy, hq3, rfl⟩; (simp only [go_sem])))
        | (((first | refine kdq [0] ?_ (hc := fin (.mk 14 ByteArray.empty 0 t.ty T.any.ty 63 [.mk 14 ByteArray.empty 0 T.any.ty t.ty 62 [x]]) 100 (by simp only [Tm.size, Tm.sizes, T.ty, Ty.size, Ty.sizes]; omega) (by omega) _ (by omega)) | refine kmq [0] ?_ (hc := fin (.mk 14 ByteArray.empty 0 t.ty T.any.ty 63 [.mk 14 ByteArray.empty 0 T.any.ty t.ty 62 [x]]) 100 (by simp only [Tm.size, Tm.sizes, T.ty, Ty.size, Ty.sizes]; omega) (by omega) _ (by omega)) | refine ktq [0] ?_ (hc := fin (.mk 14 ByteArray.empty 0 t.ty T.any.ty 63 [.mk 14 ByteArray.empty 0 T.any.ty t.ty 62 [x]]) 100 (by simp only [Tm.size, Tm.sizes, T.ty, Ty.size, Ty.sizes]; omega) (by omega) _ (by omega))); rintro _ _ ⟨y, q3, rfl, hy, hq3, rfl⟩; (simp only [go_sem])))
        | (((first | refine kdq [0] ?_ (hc := fin (.mk 14 ByteArray.empty 0 t.ty t.ty 61 [x]) 100 (by simp only [Tm.size, Tm.sizes, T.ty, Ty.size, Ty.sizes]; omega) (by omega) _ (by omega)) | refine kmq [0] ?_ (hc := fin (.mk 14 ByteArray.empty 0 t.ty t.ty 61 [x]) 100 (by simp only [Tm.size, Tm.sizes, T.ty, Ty.size, Ty.sizes]; omega) (by omega) _ (by omega)) | refine ktq [0] ?_ (hc := fin (.mk 14 ByteArray.empty 0 t.ty t.ty 61 [x]) 100 (by simp only [Tm.size, Tm.sizes, T.ty, Ty.size, Ty.sizes]; omega) (by omega) _ (by omega))); rintro _ _ ⟨y, q3, rfl, hy, hq3, rfl⟩; (simp only [go_sem])))
        | (((first | refine kdq [0] ?_ (hc := fin x 100 (by omega) (by omega) _ (by omega)) | refine kmq [0] ?_ (hc := fin x 100 (by omega) (by omega) _ (by omega)) | refine ktq [0] ?_ (hc := fin x 100 (by omega) (by omega) _ (by omega))); rintro _ _ ⟨y, q3, rfl, hy, hq3, rfl⟩; (simp only [go_sem])))
      all_goals
        repeat' (first | (first | (((first | apply sp1 | apply sp2 | apply sp3 | apply sp4 | apply sp5 | apply sp6 | apply sp7) <;> intro hb) <;> (simp only [go_sem, hb])) | ((first | apply wm_done | apply wt_done | apply wg_run | refine fk ?_ ?_) <;> (simp only [go_sem]))) | fail)
        exact hR _ (rat [] (hK := ⟨y, q3, rfl, by (try simp only [Tm.size, Tm.sizes, T.ty, Ty.size, Ty.sizes] at hy); omega, by omega, rfl⟩))
  · ((first | refine kdq [0] ?_ (hc := fin x 0 (by omega) (by omega) _ (by omega)) | refine kmq [0] ?_ (hc := fin x 0 (by omega) (by omega) _ (by omega)) | refine ktq [0] ?_ (hc := fin x 0 (by omega) (by omega) _ (by omega))); rintro _ _ ⟨y, q3, rfl, hy, hq3, rfl⟩; (simp only [go_sem]))
    repeat' (first | (first | (((first | apply sp1 | apply sp2 | apply sp3 | apply sp4 | apply sp5 | apply sp6 | apply sp7) <;> intro hb) <;> (simp only [go_sem, hb])) | ((first | apply wm_done | apply wt_done | apply wg_run | refine fk ?_ ?_) <;> (simp only [go_sem]))) | fail)
    exact hR _ (rat [] (hK := ⟨y, q3, rfl, by omega, by omega, rfl⟩))
theorem dSimplify (l : List Int) (hl : Code8 l) : ACl Try.prog 20 [.one (.sl (byR l))] [] OneX := by
  have ho := opn l hl.len hl.all
  refine acl_in Try.func20 rfl isfn_20 (Nat.le_of_ble_eq_true rfl) (fun R hR => ?_); rw [Try.results20] at hR; refine wg_run ?_; (simp only [Try.f20, go_sem])
  repeat' (first | (first | (((first | apply sp1 | apply sp2 | apply sp3 | apply sp4 | apply sp5 | apply sp6 | apply sp7) <;> intro hb) <;> (simp only [go_sem, hb])) | ((first | apply wm_done | apply wt_done | apply wg_run | refine fk ?_ ?_) <;> (simp only [go_sem]))) | fail)
  ((first | refine kdq [] ?_ (hc := ho) | refine kmq [] ?_ (hc := ho) | refine ktq [] ?_ (hc := ho)); rintro _ _ ⟨bs, hB, rfl, rfl⟩ <;> (simp only [go_sem]))
  have ht := l12Draw bs hB 0 (by omega)
  repeat' (first | (first | (((first | apply sp1 | apply sp2 | apply sp3 | apply sp4 | apply sp5 | apply sp6 | apply sp7) <;> intro hb) <;> (simp only [go_sem, hb])) | ((first | apply wm_done | apply wt_done | apply wg_run | refine fk ?_ ?_) <;> (simp only [go_sem]))) | fail)
  ((first | refine kdq [1] ?_ (hc := ht) | refine kmq [1] ?_ (hc := ht) | refine ktq [1] ?_ (hc := ht)); rintro _ _ ⟨x, p, rfl, hx, hp, rfl⟩ <;> (simp only [go_sem]))
  repeat' (first | (first | (((first | apply sp1 | apply sp2 | apply sp3 | apply sp4 | apply sp5 | apply sp6 | apply sp7) <;> intro hb) <;> (simp only [go_sem, hb])) | ((first | apply wm_done | apply wt_done | apply wg_run | refine fk ?_ ?_) <;> (simp only [go_sem]))) | fail)
  exact hR _ (rat [] (hK := ⟨x, rfl, by omega, rfl⟩))
theorem iSimpE (e : E) (h : e.okC = true) : AFn Try.prog 21 [.agg (teC e.tm)] (.tup [.agg (teC e.simp.tm), .one (.sc (.bool true))]) := by
  have h1 := iCastV e.tm
  rw [E.castV_tm, h] at h1
  have h2 := iSimp e (by simp only [E.okC, Bool.and_eq_true] at h; exact h.1)
  refine fn_in ?_; refine acl_in Try.func21 rfl isfn_21 (Nat.le_of_ble_eq_true rfl) (fun R hR => ?_); rw [Try.results21] at hR; refine wg_run ?_; (simp only [Try.f21, go_sem])
  repeat' (first | (first | (((first | apply sp1 | apply sp2 | apply sp3 | apply sp4 | apply sp5 | apply sp6 | apply sp7) <;> intro hb) <;> (simp only [go_sem, hb])) | ((first | apply wm_done | apply wt_done | apply wg_run | refine fk ?_ ?_) <;> (simp only [go_sem]))) | (first | refine cdq ?_ (hc := h1) | refine cmq ?_ (hc := h1) | refine ctq ?_ (hc := h1)); (simp only [go_sem]) | (first | refine cdq ?_ (hc := h2) | refine cmq ?_ (hc := h2) | refine ctq ?_ (hc := h2)); (simp only [go_sem]) | ((first | refine mxq6 [] ?_ | refine mxq5 [] ?_ | refine mxq4 [] ?_ | refine mxq3 [] ?_ | refine mxq2 [] ?_ | refine mxq1 [] ?_ | refine mxq0 [] ?_ | fail); (simp only [go_sem])) | fail)
  (refine hR _ (rat [] (hK := ⟨rfl, rfl⟩)))
theorem iSimpBad (t : Tm) (h : t.castV = false) : AFn Try.prog 21 [.agg (teC t)] (.tup [.agg (teC tm0), .one (.sc (.bool false))]) := by
  have h1 := iCastV t
  rw [h] at h1
  simp only [tm0, noTy]
  refine fn_in ?_; refine acl_in Try.func21 rfl isfn_21 (Nat.le_of_ble_eq_true rfl) (fun R hR => ?_); rw [Try.results21] at hR; refine wg_run ?_; (simp only [Try.f21, go_sem])
  repeat' (first | (first | (((first | apply sp1 | apply sp2 | apply sp3 | apply sp4 | apply sp5 | apply sp6 | apply sp7) <;> intro hb) <;> (simp only [go_sem, hb])) | ((first | apply wm_done | apply wt_done | apply wg_run | refine fk ?_ ?_) <;> (simp only [go_sem]))) | (first | refine cdq ?_ (hc := h1) | refine cmq ?_ (hc := h1) | refine ctq ?_ (hc := h1)); (simp only [go_sem]) | fail)
  (refine hR _ (rat [] (hK := ⟨rfl, rfl⟩)))
theorem sSimpE (e : E) (h : e.okC = true) (hz : e.tm.size < 100000000) : AFn Try.prog 22 [.agg (teC e.tm)] (.tup [.agg (teC e.simp.tm), .one (.sc (.bool true))]) := by
  have h1 := sCastV e.tm (by omega)
  rw [E.castV_tm, h] at h1
  have h2 := sSimple e (by simp only [E.okC, Bool.and_eq_true] at h; exact h.1) (by omega)
  refine fn_in ?_; refine acl_in Try.func22 rfl isfn_22 (Nat.le_of_ble_eq_true rfl) (fun R hR => ?_); rw [Try.results22] at hR; refine wg_run ?_; (simp only [Try.f22, go_sem])
  repeat' (first | (first | (((first | apply sp1 | apply sp2 | apply sp3 | apply sp4 | apply sp5 | apply sp6 | apply sp7) <;> intro hb) <;> (simp only [go_sem, hb])) | ((first | apply wm_done | apply wt_done | apply wg_run | refine fk ?_ ?_) <;> (simp only [go_sem]))) | (first | refine cdq ?_ (hc := h1) | refine cmq ?_ (hc := h1) | refine ctq ?_ (hc := h1)); (simp only [go_sem]) | (first | refine cdq ?_ (hc := h2) | refine cmq ?_ (hc := h2) | refine ctq ?_ (hc := h2)); (simp only [go_sem]) | ((first | refine mxq6 [] ?_ | refine mxq5 [] ?_ | refine mxq4 [] ?_ | refine mxq3 [] ?_ | refine mxq2 [] ?_ | refine mxq1 [] ?_ | refine mxq0 [] ?_ | fail); (simp only [go_sem])) | fail)
  (refine hR _ (rat [] (hK := ⟨rfl, rfl⟩)))
theorem sSimpBad (t : Tm) (h : t.castV = false) (hz : t.size < 100000000) : AFn Try.prog 22 [.agg (teC t)] (.tup [.agg (teC tm0), .one (.sc (.bool false))]) := by
  have h1 := sCastV t (by omega)
  rw [h] at h1
  simp only [tm0, noTy]
  refine fn_in ?_; refine acl_in Try.func22 rfl isfn_22 (Nat.le_of_ble_eq_true rfl) (fun R hR => ?_); rw [Try.results22] at hR; refine wg_run ?_; (simp only [Try.f22, go_sem])
  repeat' (first | (first | (((first | apply sp1 | apply sp2 | apply sp3 | apply sp4 | apply sp5 | apply sp6 | apply sp7) <;> intro hb) <;> (simp only [go_sem, hb])) | ((first | apply wm_done | apply wt_done | apply wg_run | refine fk ?_ ?_) <;> (simp only [go_sem]))) | (first | refine cdq ?_ (hc := h1) | refine cmq ?_ (hc := h1) | refine ctq ?_ (hc := h1)); (simp only [go_sem]) | fail)
  (refine hR _ (rat [] (hK := ⟨rfl, rfl⟩)))
theorem lSimplify (l : List Int) (hc : ∀ k, 0 ≤ byte l k ∧ byte l k < 256) : AFn Try.prog 6 [.one (.sl (byR l))] (.one (.sc (.bool true))) := by
  by_cases hlen : 1048576 < l.length
  · have hg : decide (((l.length : Nat) : Int) > 1048576) = true := by simp; omega
    refine fn_in ?_; refine acl_in Try.func6 rfl isfn_6 (Nat.le_of_ble_eq_true rfl) (fun R hR => ?_); rw [Try.results6] at hR; refine wg_run ?_; (simp only [Try.f6, go_sem, hg])
    (refine hR _ (rat [] (hK := ⟨rfl, rfl⟩)))
  · have hg : decide (((l.length : Nat) : Int) > 1048576) = false := by simp; omega
    have hd := dSimplify l ⟨by omega, hc⟩
    refine fn_in ?_; refine acl_in Try.func6 rfl isfn_6 (Nat.le_of_ble_eq_true rfl) (fun R hR => ?_); rw [Try.results6] at hR; refine wg_run ?_; (simp only [Try.f6, go_sem, hg])
    ((first | refine kdq [] ?_ (hc := hd) | refine kmq [] ?_ (hc := hd) | refine ktq [] ?_ (hc := hd)); rintro _ _ ⟨x, rfl, hx, rfl⟩ <;> (simp only [go_sem]))
    have hz0 : tm0.size < 100000000 := by simp [tm0, Tm.size, Tm.sizes, noTy, Ty.size, Ty.sizes]
    have rf : ∀ t : Tm, t.size < 100000000 → AFn Try.prog 11 [.agg (teC t), .agg (teC t)] (.one (.sc (.bool true))) := fun t ht => by
      have := iTmSame 4611686018427387904 (by omega) t t (by omega)
      rwa [Tm.same_refl] at this
    cases ev : x.castV
    · have h1 := iSimpBad x ev
      have h2 := sSimpBad x ev (by omega)
      have h3 := rf tm0 hz0
      simp only [tm0, noTy] at h1 h2 h3
      repeat' (first | (first | (simp only [go_sem, int_bne, beq_self_eq_true]) | (((first | apply sp1 | apply sp2 | apply sp3 | apply sp4 | apply sp5 | apply sp6 | apply sp7) <;> intro hb) <;> (simp only [go_sem, hb, int_bne, beq_self_eq_true])) | ((first | apply wm_done | apply wt_done | apply wg_run | refine fk ?_ ?_) <;> (simp only [go_sem, int_bne, beq_self_eq_true]))) | (first | refine cdq ?_ (hc := h1) | refine cmq ?_ (hc := h1) | refine ctq ?_ (hc := h1)); (simp only [go_sem]) | (first | refine cdq ?_ (hc := h2) | refine cmq ?_ (hc := h2) | refine ctq ?_ (hc := h2)); (simp only [go_sem]) | (first | refine cdq ?_ (hc := h3) | refine cmq ?_ (hc := h3) | refine ctq ?_ (hc := h3)); (simp only [go_sem]) | ((first | refine mxq6 [] ?_ | refine mxq5 [] ?_ | refine mxq4 [] ?_ | refine mxq3 [] ?_ | refine mxq2 [] ?_ | refine mxq1 [] ?_ | refine mxq0 [] ?_ | fail); (simp only [go_sem, int_bne, beq_self_eq_true])) | fail)
      all_goals (refine hR _ (rat [] (hK := ⟨rfl, rfl⟩)))
    · obtain ⟨e, rfl, ho⟩ := Tm.castV_E ev
      have hsz := e.simp_size
      have h1 := iSimpE e ho
      have h2 := sSimpE e ho (by omega)
      have h3 := rf e.simp.tm (by omega)
      have h4 := iSimpE e.simp (E.simp_ok ho)
      rw [E.simp_simp] at h4
      have h5 := iRedundant e.simp.tm (by omega)
      rw [E.simp_red ho] at h5
      have h6 := iCastV e.simp.tm
      rw [E.castV_tm, E.simp_ok ho] at h6
      generalize e.simp.tm = y at *
      repeat' (first | (first | (simp only [go_sem, int_bne, beq_self_eq_true]) | (((first | apply sp1 | apply sp2 | apply sp3 | apply sp4 | apply sp5 | apply sp6 | apply sp7) <;> intro hb) <;> (simp only [go_sem, hb, int_bne, beq_self_eq_true])) | ((first | apply wm_done | apply wt_done | apply wg_run | refine fk ?_ ?_) <;> (simp only [go_sem, int_bne, beq_self_eq_true]))) | (first | refine cdq ?_ (hc := h1) | refine cmq ?_ (hc := h1) | refine ctq ?_ (hc := h1)); (simp only [go_sem]) | (first | refine cdq ?_ (hc := h2) | refine cmq ?_ (hc := h2) | refine ctq ?_ (hc := h2)); (simp only [go_sem]) | (first | refine cdq ?_ (hc := h3) | refine cmq ?_ (hc := h3) | refine ctq ?_ (hc := h3)); (simp only [go_sem]) | (first | refine cdq ?_ (hc := h4) | refine cmq ?_ (hc := h4) | refine ctq ?_ (hc := h4)); (simp only [go_sem]) | (first | refine cdq ?_ (hc := h5) | refine cmq ?_ (hc := h5) | refine ctq ?_ (hc := h5)); (simp only [go_sem]) | (first | refine cdq ?_ (hc := h6) | refine cmq ?_ (hc := h6) | refine ctq ?_ (hc := h6)); (simp only [go_sem]) | ((first | refine mxq6 [] ?_ | refine mxq5 [] ?_ | refine mxq4 [] ?_ | refine mxq3 [] ?_ | refine mxq2 [] ?_ | refine mxq1 [] ?_ | refine mxq0 [] ?_ | fail); (simp only [go_sem, int_bne, beq_self_eq_true])) | fail)
      all_goals (refine hR _ (rat [] (hK := ⟨rfl, rfl⟩)))
end Go.Proofs.Ytnaebafafhamjaa
