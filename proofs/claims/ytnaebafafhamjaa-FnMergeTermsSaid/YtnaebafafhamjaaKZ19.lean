/- Texts of the proof, one behind another. -/
import Derived.Test.YtnaebafafhamjaaKZ10
import Derived.Test.YtnaebafafhamjaaKZ12
import Derived.Test.YtnaebafafhamjaaKZ14
import Derived.Test.YtnaebafafhamjaaKZ16
import Derived.Test.YtnaebafafhamjaaKZ18
set_option linter.unusedSimpArgs false
set_option linter.unusedVariables false
/- The type of a closed term, in the reference. On shadows. -/
namespace Go.Proofs.Ytnaebafafhamjaa
open Go.RowKit Go.Proofs.Sh Go.Proofs.Grad
set_option maxRecDepth 100000
set_option maxHeartbeats 8000000
theorem E.nodes_tm (e : E) : e.nodes ≤ e.tm.size := by rw [← E.tm_nodes]; exact Tm.nodes_le _
theorem sCtxNil : AFn Try.prog 165 [.one (.sl [])] (.one (.sc (.bool true))) := by
  refine fn_in ?_; refine acl_in Try.func165 rfl isfn_165 (Nat.le_of_ble_eq_true rfl) (fun R hR => ?_); rw [Try.results165] at hR; refine wg_run ?_; (simp only [Try.f165, go_sem])
  repeat' (first | (first | (((first | apply sp1 | apply sp2 | apply sp3 | apply sp4 | apply sp5 | apply sp6 | apply sp7) <;> intro hb) <;> (simp only [go_sem, hb])) | ((first | apply wm_done | apply wt_done | apply wg_run | refine fk ?_ ?_) <;> (simp only [go_sem]))) | (first | (refine wl_next (wg_run ?_); (simp only [go_sem])) | refine wd_rounds 6 ?_) | fail)
  (refine hR _ ?_; refine rat [] (hK := ⟨rfl, rfl⟩))
theorem l3SureT (t : Ty) : AFn Try.prog 144 [.agg (tyC t), .one (.sc (.bool true))] (.tup [.agg (tyC t), .one (.sc (.bool true))]) := by
  refine fn_in ?_; refine acl_in Try.func144 rfl isfn_144 (Nat.le_of_ble_eq_true rfl) (fun R hR => ?_); rw [Try.results144] at hR; refine wg_run ?_; (simp only [Try.f144, go_sem])
  repeat' (first | (first | (((first | apply sp1 | apply sp2 | apply sp3 | apply sp4 | apply sp5 | apply sp6 | apply sp7) <;> intro hb) <;> (simp only [go_sem, hb])) | ((first | apply wm_done | apply wt_done | apply wg_run | refine fk ?_ ?_) <;> (simp only [go_sem]))) | fail)
  (refine hR _ ?_; refine rat [] (hK := ⟨rfl, rfl⟩))
theorem l3SureF (t : Ty) : AFn Try.prog 144 [.agg (tyC t), .one (.sc (.bool false))] (.tup [.agg (tyC noTy), .one (.sc (.bool false))]) := by
  refine fn_in ?_; refine acl_in Try.func144 rfl isfn_144 (Nat.le_of_ble_eq_true rfl) (fun R hR => ?_); rw [Try.results144] at hR; refine wg_run ?_; (simp only [Try.f144, go_sem])
  repeat' (first | (first | (((first | apply sp1 | apply sp2 | apply sp3 | apply sp4 | apply sp5 | apply sp6 | apply sp7) <;> intro hb) <;> (simp only [go_sem, hb])) | ((first | apply wm_done | apply wt_done | apply wg_run | refine fk ?_ ?_) <;> (simp only [go_sem]))) | fail)
  (refine hR _ ?_; refine rat [] (hK := ⟨rfl, rfl⟩))
/-- the type of a closed term and true; or the zero value and false -/
def TyN (e : E) (r : AV) (H' : List Blk) : Prop := (∃ t, e.rty [] = some t ∧ r = .tup [.agg (tyC t.ty), .one (.sc (.bool true))] ∧ H' = []) ∨ (r = .tup [.agg (tyC noTy), .one (.sc (.bool false))] ∧ H' = [])
theorem sTypeIn (e : E) (hw : e.wf = true) (hn : e.noC = true) (hz : e.tm.size < 40000) : ACl Try.prog 135 [.one (.sl []), .agg (teC e.tm)] [] (TyN e) := by
  have hv := sTermV e.tm (by omega)
  have hnd := E.nodes_tm e
  have h1 := l3Type e [] hw hn ctxOk_nil (by simp; omega)
  have hT := l3SureT
  have hF := l3SureF
  have hc := sCtxNil
  cases ev : e.tm.termV
  all_goals
    rw [ev] at hv
    refine acl_in Try.func135 rfl isfn_135 (Nat.le_of_ble_eq_true rfl) (fun R hR => ?_); rw [Try.results135] at hR; refine wg_run ?_; (simp only [Try.f135, go_sem])
    repeat' (first | (first | (((first | apply sp1 | apply sp2 | apply sp3 | apply sp4 | apply sp5 | apply sp6 | apply sp7) <;> intro hb) <;> (simp only [go_sem, hb])) | ((first | apply wm_done | apply wt_done | apply wg_run | refine fk ?_ ?_) <;> (simp only [go_sem]))) | ((first | refine mxq6 [] ?_ | refine mxq5 [] ?_ | refine mxq4 [] ?_ | refine mxq3 [] ?_ | refine mxq2 [] ?_ | refine mxq1 [] ?_ | refine mxq0 [] ?_ | fail); (simp only [go_sem])) | (first | refine cdq ?_ (hc := hc) | refine cmq ?_ (hc := hc) | refine ctq ?_ (hc := hc)); (simp only [go_sem]) | (first | refine cdq ?_ (hc := hv) | refine cmq ?_ (hc := hv) | refine ctq ?_ (hc := hv)); (simp only [go_sem]) | fail)
  · exact hR _ (rat [] (hK := (.inr ⟨rfl, rfl⟩)))
  · ((first | refine kdq [] ?_ (hc := h1) | refine kmq [] ?_ (hc := h1) | refine ktq [] ?_ (hc := h1)); rintro _ _ (⟨s, es, rfl, rfl⟩ | ⟨es, y, hy, rfl, rfl⟩) <;> (simp only [go_sem]))
    · repeat' (first | (first | (((first | apply sp1 | apply sp2 | apply sp3 | apply sp4 | apply sp5 | apply sp6 | apply sp7) <;> intro hb) <;> (simp only [go_sem, hb])) | ((first | apply wm_done | apply wt_done | apply wg_run | refine fk ?_ ?_) <;> (simp only [go_sem]))) | (first | refine cdq ?_ (hc := hT _) | refine cmq ?_ (hc := hT _) | refine ctq ?_ (hc := hT _)); (simp only [go_sem]) | fail)
      exact hR _ (rat [] (hK := (.inl ⟨s, es, rfl, rfl⟩)))
    · repeat' (first | (first | (((first | apply sp1 | apply sp2 | apply sp3 | apply sp4 | apply sp5 | apply sp6 | apply sp7) <;> intro hb) <;> (simp only [go_sem, hb])) | ((first | apply wm_done | apply wt_done | apply wg_run | refine fk ?_ ?_) <;> (simp only [go_sem]))) | (first | refine cdq ?_ (hc := hF _) | refine cmq ?_ (hc := hF _) | refine ctq ?_ (hc := hF _)); (simp only [go_sem]) | fail)
      exact hR _ (rat [] (hK := (.inr ⟨rfl, rfl⟩)))
theorem sTypeOf (e : E) (hw : e.wf = true) (hn : e.noC = true) (hz : e.tm.size < 40000) : ACl Try.prog 82 [.agg (teC e.tm)] [] (TyN e) := by
  have h1 := sTypeIn e hw hn hz
  refine acl_in Try.func82 rfl isfn_82 (Nat.le_of_ble_eq_true rfl) (fun R hR => ?_); rw [Try.results82] at hR; refine wg_run ?_; (simp only [Try.f82, go_sem])
  repeat' (first | (first | (((first | apply sp1 | apply sp2 | apply sp3 | apply sp4 | apply sp5 | apply sp6 | apply sp7) <;> intro hb) <;> (simp only [go_sem, hb])) | ((first | apply wm_done | apply wt_done | apply wg_run | refine fk ?_ ?_) <;> (simp only [go_sem]))) | fail)
  ((first | refine kdq [] ?_ (hc := h1) | refine kmq [] ?_ (hc := h1) | refine ktq [] ?_ (hc := h1)); rintro _ _ (⟨s, es, rfl, rfl⟩ | ⟨rfl, rfl⟩) <;> (simp only [go_sem]))
  · repeat' (first | (first | (((first | apply sp1 | apply sp2 | apply sp3 | apply sp4 | apply sp5 | apply sp6 | apply sp7) <;> intro hb) <;> (simp only [go_sem, hb])) | ((first | apply wm_done | apply wt_done | apply wg_run | refine fk ?_ ?_) <;> (simp only [go_sem]))) | fail)
    exact hR _ (rat [] (hK := (.inl ⟨s, es, rfl, rfl⟩)))
  · repeat' (first | (first | (((first | apply sp1 | apply sp2 | apply sp3 | apply sp4 | apply sp5 | apply sp6 | apply sp7) <;> intro hb) <;> (simp only [go_sem, hb])) | ((first | apply wm_done | apply wt_done | apply wg_run | refine fk ?_ ?_) <;> (simp only [go_sem]))) | fail)
    exact hR _ (rat [] (hK := (.inr ⟨rfl, rfl⟩)))
end Go.Proofs.Ytnaebafafhamjaa
/- The reference's draws of typed terms, and of terms with casts. On shadows. -/
namespace Go.Proofs.Ytnaebafafhamjaa
open Go.RowKit Go.Proofs.Sh Go.Proofs.Grad
set_option maxRecDepth 100000
set_option maxHeartbeats 16000000
theorem T.depth_pos (t : T) : 1 ≤ t.depth := by cases t <;> simp [T.depth]
theorem make1 (bs : List Int) (hB : Bs bs) (d : Int) (h0 : -900 ≤ d) (h1 : d ≤ 1) (t : T) (ht : t.depth ≤ 1) : MakeC bs d t 7 898000000 130 30 :=
  l3MakeB bs hB d (by omega) (by omega) h1 t (by omega) 7 898000000 0 0 (by omega) (by omega) (fun u hu => by have := T.depth_pos u; omega)
theorem make2 (bs : List Int) (hB : Bs bs) (d : Int) (h0 : -800 ≤ d) (h1 : d ≤ 1) (t : T) (ht : t.depth ≤ 2) : MakeC bs d t 6 897000000 390 90 :=
  l3MakeB bs hB d (by omega) (by omega) h1 t (by omega) 6 897000000 130 30 (by omega) (by omega) (fun u hu => (make1 bs hB (d - 1) (by omega) (by omega) u (by omega)).mono (by omega) (by omega) (by omega) (by omega))
theorem make3 (bs : List Int) (hB : Bs bs) (d : Int) (h0 : -700 ≤ d) (h1 : d ≤ 1) (t : T) (ht : t.depth ≤ 3) : MakeC bs d t 5 896000000 910 210 :=
  l3MakeB bs hB d (by omega) (by omega) h1 t (by omega) 5 896000000 390 90 (by omega) (by omega) (fun u hu => (make2 bs hB (d - 1) (by omega) (by omega) u (by omega)).mono (by omega) (by omega) (by omega) (by omega))
theorem make4 (bs : List Int) (hB : Bs bs) (d : Int) (h0 : -600 ≤ d) (h1 : d ≤ 1) (t : T) (ht : t.depth ≤ 4) : MakeC bs d t 4 895000000 1950 450 :=
  l3MakeB bs hB d (by omega) (by omega) h1 t (by omega) 4 895000000 910 210 (by omega) (by omega) (fun u hu => (make3 bs hB (d - 1) (by omega) (by omega) u (by omega)).mono (by omega) (by omega) (by omega) (by omega))
theorem make5 (bs : List Int) (hB : Bs bs) (t : T) (ht : t.depth ≤ 4) : MakeC bs 2 t 3 894000000 5980 1380 :=
  have h : ∀ u : T, u.depth ≤ 4 → MakeC bs (2 - 1) u (3 + 1) (894000000 + 3 * 1950 + 200) 1950 450 := fun u hu => (make4 bs hB (2 - 1) (by omega) (by omega) u hu).mono (by omega) (by omega) (by omega) (by omega)
  l3MakeD bs hB 2 (by omega) (by omega) (by omega) t ht 3 894000000 1950 450 (by omega) (by omega) (fun u hu => h u (by omega)) (fun _ => h)
theorem make6 (bs : List Int) (hB : Bs bs) (t : T) (ht : t.depth ≤ 4) : MakeC bs 3 t 2 893000000 18070 4170 :=
  have h : ∀ u : T, u.depth ≤ 4 → MakeC bs (3 - 1) u (2 + 1) (893000000 + 3 * 5980 + 200) 5980 1380 := fun u hu => (make5 bs hB u hu).mono (by omega) (by omega) (by omega) (by omega)
  l3MakeD bs hB 3 (by omega) (by omega) (by omega) t ht 2 893000000 5980 1380 (by omega) (by omega) (fun u hu => h u (by omega)) (fun _ => h)
theorem make7 (bs : List Int) (hB : Bs bs) (t : T) (ht : t.depth ≤ 4) : MakeC bs 4 t 1 892000000 54340 12540 :=
  have h : ∀ u : T, u.depth ≤ 4 → MakeC bs (4 - 1) u (1 + 1) (892000000 + 3 * 18070 + 200) 18070 4170 := fun u hu => (make6 bs hB u hu).mono (by omega) (by omega) (by omega) (by omega)
  l3MakeD bs hB 4 (by omega) (by omega) (by omega) t ht 1 892000000 18070 4170 (by omega) (by omega) (fun u hu => h u (by omega)) (fun _ => h)
theorem make8 (bs : List Int) (hB : Bs bs) (t : T) (ht : t.depth ≤ 4) : MakeC bs 5 t 0 891000000 163150 37650 :=
  have h : ∀ u : T, u.depth ≤ 4 → MakeC bs (5 - 1) u (0 + 1) (891000000 + 3 * 54340 + 200) 54340 12540 := fun u hu => (make7 bs hB u hu).mono (by omega) (by omega) (by omega) (by omega)
  l3MakeD bs hB 5 (by omega) (by omega) (by omega) t ht 0 891000000 54340 12540 (by omega) (by omega) (fun u hu => h u (by omega)) (fun _ => h)
theorem make9 (bs : List Int) (hB : Bs bs) (z : Int) (hz : z ∈ [4, 3, 5, 4]) (t : T) (ht : t.depth ≤ 4) (p : Nat) (hp : p < 890000000) :
    ACl Try.prog 79 [.one (.ptr 2 0 0 0), .one (.sl (bdR [])), .agg (tyC t.ty), .one (.sc (.int .i64 z))] [(⟨2, 83, .mut, [[.sl (byR bs), .sc (.int .i64 ((p : Nat) : Int))]]⟩ : Blk)] (DrawsE bs p 163150 37650) := by
  have h : MakeC bs z t 0 890000000 163150 37650 := by
    simp only [List.mem_cons, List.not_mem_nil, or_false] at hz
    rcases hz with rfl | rfl | rfl | rfl
    · exact (make7 bs hB t ht).mono (by omega) (by omega) (by omega) (by omega)
    · exact (make6 bs hB t ht).mono (by omega) (by omega) (by omega) (by omega)
    · exact (make8 bs hB t ht).mono (by omega) (by omega) (by omega) (by omega)
    · exact (make7 bs hB t ht).mono (by omega) (by omega) (by omega) (by omega)
  exact h [] (by simp) ctxOk_nil ctxN_nil p hp
theorem l3Typed (bs : List Int) (hB : Bs bs) (p : Nat) (hp : p < 700000000) : ACl Try.prog 30 [.one (.ptr 2 0 0 0)] [(⟨2, 83, .mut, [[.sl (byR bs), .sc (.int .i64 ((p : Nat) : Int))]]⟩ : Blk)] (DrawsE bs p 660000 37650) := by
  refine acl_in Try.func30 rfl isfn_30 (Nat.le_of_ble_eq_true rfl) (fun R hR => ?_); rw [Try.results30] at hR; refine wg_run ?_; (simp only [Try.f30, go_sem])
  refine wd_for [0, 2, 3] (fun (x : Nat × Nat) => [.one (.ptr 2 0 0 0), .one (.ptr 9 1 0 0), .one (.sc (.int .i64 (x.1 : Nat)))])
    (fun x => [(⟨2, 83, .mut, [[.sl (byR bs), .sc (.int .i64 ((x.2 : Nat) : Int))]]⟩ : Blk), ⟨9, 28, .mut, [[.sc (.int .i64 0), .sc (.string { data := { toList := [] } }), .sc (.int .i64 0), .sc (.int .i64 0), .sc (.slice none 0 0), .sc (.int .i64 0), .sc (.slice none 0 0), .sc (.int .i64 0), .sc (.slice none 0 0)]]⟩])
    (fun x => x.1 ≤ 4 ∧ x.2 ≤ p + x.1 * 163300) (fun x => 4 - x.1) (0, p) ⟨by omega, by omega⟩ (hat [1] (hI := ⟨rfl, rfl⟩)) ?_
  rintro ⟨i, q⟩ ⟨hi, hq⟩ G hG
  simp only [] at hi hq
  refine wg_run ?_
  by_cases hi4 : i < 4
  · have d1 : decide ((i : Int) < 4) = true := by simp; omega
    have hw1 : IntKind.i64.wrap ((i : Int) + 1) = ((i + 1 : Nat) : Int) := by rw [IntWalk.i64_in _ (by omega)]; omega
    (simp only [go_sem, d1])
    repeat' (first | (first | (simp only [go_sem, d1]) | (((first | apply sp1 | apply sp2 | apply sp3 | apply sp4 | apply sp5 | apply sp6 | apply sp7) <;> intro hb) <;> (simp only [go_sem, hb, d1])) | ((first | apply wm_done | apply wt_done | apply wg_run | refine fk ?_ ?_) <;> (simp only [go_sem, d1]))) | fail)
    ((first | refine kdq [0] ?_ (hc := num bs hB _ (by omega) [1, 2, 2, 3] (by decide) (by decide)) | refine kmq [0] ?_ (hc := num bs hB _ (by omega) [1, 2, 2, 3] (by decide) (by decide)) | refine ktq [0] ?_ (hc := num bs hB _ (by omega) [1, 2, 2, 3] (by decide) (by decide))); rintro _ _ ⟨z, rfl, hz, rfl⟩; (simp only [go_sem]))
    repeat' (first | (first | (simp only [go_sem, d1]) | (((first | apply sp1 | apply sp2 | apply sp3 | apply sp4 | apply sp5 | apply sp6 | apply sp7) <;> intro hb) <;> (simp only [go_sem, hb, d1])) | ((first | apply wm_done | apply wt_done | apply wg_run | refine fk ?_ ?_) <;> (simp only [go_sem, d1]))) | fail)
    simp only [List.mem_cons, List.not_mem_nil, or_false] at hz
    obtain ⟨j, rfl, hj1, hj4⟩ : ∃ j : Nat, z = (j : Int) ∧ 1 ≤ j ∧ j ≤ 3 := ⟨z.toNat, by omega, by omega, by omega⟩
    ((first | refine kdq [0] ?_ (hc := l1Draw bs hB j hj1 (by omega) _ (by omega)) | refine kmq [0] ?_ (hc := l1Draw bs hB j hj1 (by omega) _ (by omega)) | refine ktq [0] ?_ (hc := l1Draw bs hB j hj1 (by omega) _ (by omega))); rintro _ _ ⟨x1, q1, rfl, hx1, hq1, rfl⟩; (simp only [go_sem]))
    repeat' (first | (first | (simp only [go_sem, d1]) | (((first | apply sp1 | apply sp2 | apply sp3 | apply sp4 | apply sp5 | apply sp6 | apply sp7) <;> intro hb) <;> (simp only [go_sem, hb, d1])) | ((first | apply wm_done | apply wt_done | apply wg_run | refine fk ?_ ?_) <;> (simp only [go_sem, d1]))) | fail)
    ((first | refine kdq [0] ?_ (hc := num bs hB _ (by omega) [4, 3, 5, 4] (by decide) (by decide)) | refine kmq [0] ?_ (hc := num bs hB _ (by omega) [4, 3, 5, 4] (by decide) (by decide)) | refine ktq [0] ?_ (hc := num bs hB _ (by omega) [4, 3, 5, 4] (by decide) (by decide))); rintro _ _ ⟨z, rfl, hz, rfl⟩; (simp only [go_sem]))
    repeat' (first | (first | (simp only [go_sem, d1]) | (((first | apply sp1 | apply sp2 | apply sp3 | apply sp4 | apply sp5 | apply sp6 | apply sp7) <;> intro hb) <;> (simp only [go_sem, hb, d1])) | ((first | apply wm_done | apply wt_done | apply wg_run | refine fk ?_ ?_) <;> (simp only [go_sem, d1]))) | fail)
    ((first | refine kdq [0] ?_ (hc := make9 bs hB z hz x1 (by omega) _ (by omega)) | refine kmq [0] ?_ (hc := make9 bs hB z hz x1 (by omega) _ (by omega)) | refine ktq [0] ?_ (hc := make9 bs hB z hz x1 (by omega) _ (by omega))); rintro _ _ ⟨e, q2, rfl, he, hc, hs, hq2, rfl⟩; (simp only [go_sem]))
    have ht := sTypeOf e he hc (by omega)
    repeat' (first | (first | (simp only [go_sem, d1]) | (((first | apply sp1 | apply sp2 | apply sp3 | apply sp4 | apply sp5 | apply sp6 | apply sp7) <;> intro hb) <;> (simp only [go_sem, hb, d1])) | ((first | apply wm_done | apply wt_done | apply wg_run | refine fk ?_ ?_) <;> (simp only [go_sem, d1]))) | ((first | refine kdq [] ?_ (hc := ht) | refine kmq [] ?_ (hc := ht) | refine ktq [] ?_ (hc := ht)); rintro _ _ (⟨t, et, rfl, rfl⟩ | ⟨rfl, rfl⟩) <;> (simp only [go_sem])) | fail)
    · exact hR _ (rat [] (hK := ⟨e, q2, rfl, he, hc, hs, by omega, rfl⟩))
    · repeat' (first | (first | (simp only [go_sem, hw1]) | (((first | apply sp1 | apply sp2 | apply sp3 | apply sp4 | apply sp5 | apply sp6 | apply sp7) <;> intro hb) <;> (simp only [go_sem, hb, hw1])) | ((first | apply wm_done | apply wt_done | apply wg_run | refine fk ?_ ?_) <;> (simp only [go_sem, hw1]))) | fail)
      exact hG (i + 1, q2) _ _ ⟨by simp only []; omega, by simp only []; omega⟩ (by simp only []; omega) (hat [1] (hI := ⟨rfl, rfl⟩))
  · have d1 : decide ((i : Int) < 4) = false := by simp; omega
    clear hG
    (simp only [go_sem, d1])
    repeat' (first | (first | (simp only [go_sem, d1]) | (((first | apply sp1 | apply sp2 | apply sp3 | apply sp4 | apply sp5 | apply sp6 | apply sp7) <;> intro hb) <;> (simp only [go_sem, hb, d1])) | ((first | apply wm_done | apply wt_done | apply wg_run | refine fk ?_ ?_) <;> (simp only [go_sem, d1]))) | fail)
    ((first | refine kdq [0] ?_ (hc := l2Closed bs hB _ (by omega)) | refine kmq [0] ?_ (hc := l2Closed bs hB _ (by omega)) | refine ktq [0] ?_ (hc := l2Closed bs hB _ (by omega))); rintro _ _ ⟨e, q2, rfl, he, hc, hs, hq2, rfl⟩; (simp only [go_sem]))
    repeat' (first | (first | (((first | apply sp1 | apply sp2 | apply sp3 | apply sp4 | apply sp5 | apply sp6 | apply sp7) <;> intro hb) <;> (simp only [go_sem, hb])) | ((first | apply wm_done | apply wt_done | apply wg_run | refine fk ?_ ?_) <;> (simp only [go_sem]))) | fail)
    exact hR _ (rat [] (hK := ⟨e, q2, rfl, he, hc, by omega, by omega, rfl⟩))
end Go.Proofs.Ytnaebafafhamjaa
/- The reference's draws of typed terms as arguments. On shadows. -/
namespace Go.Proofs.Ytnaebafafhamjaa
open Go.RowKit Go.Proofs.Sh Go.Proofs.Grad
set_option maxRecDepth 100000
set_option maxHeartbeats 16000000
end Go.Proofs.Ytnaebafafhamjaa
/- The reference's draws of plain terms as arguments. On shadows. -/
namespace Go.Proofs.Ytnaebafafhamjaa
open Go.RowKit Go.Proofs.Sh Go.Proofs.Grad
set_option maxRecDepth 100000
set_option maxHeartbeats 16000000
end Go.Proofs.Ytnaebafafhamjaa
/- Terms: the types that stand in a term, on shadows. -/
namespace Go.Proofs.Grad
def hasTy (k : Int) : Bool := k == 5 || k == 13
def ownTys (k : Int) (t : Ty) : List Ty := match hasTy k with | true => [t] | false => []
mutual
def Tm.types : Tm → List Ty | .mk k _ _ t _ _ l => ownTys k t ++ Tm.typess l
def Tm.typess : List Tm → List Ty | [] => [] | t :: l => t.types ++ Tm.typess l
end
theorem Tm.types_eq (t : Tm) : t.types = ownTys t.kind t.type ++ Tm.typess t.kids := by cases t; rfl
theorem ownTys_len (k : Int) (t : Ty) : (ownTys k t).length ≤ 1 := by unfold ownTys; split <;> simp
mutual
theorem Tm.types_len : ∀ t : Tm, t.types.length ≤ t.nodes
  | .mk k n m t f b l => by have := Tm.typess_len l; have := ownTys_len k t; simp only [Tm.types, Tm.nodes, List.length_append]; omega
theorem Tm.typess_len : ∀ l : List Tm, (Tm.typess l).length ≤ Tm.nodess l
  | [] => by simp [Tm.typess]
  | t :: l => by have := Tm.types_len t; have := Tm.typess_len l; simp only [Tm.typess, Tm.nodess, List.length_append]; omega
end
theorem Tm.typess_append (l m : List Tm) : Tm.typess (l ++ m) = Tm.typess l ++ Tm.typess m := by
  induction l with
  | nil => rfl
  | cons t l ih => simp [Tm.typess, ih]
theorem Tm.typess_take {l : List Tm} {k : Nat} (h : k < l.length) : Tm.typess (l.take (k + 1)) = Tm.typess (l.take k) ++ (Sh.teKid l k).types := by
  rw [Sh.tetake_kid h, Tm.typess_append]; simp [Tm.typess]
theorem Tm.typess_take_len (l : List Tm) (k : Nat) : (Tm.typess (l.take k)).length ≤ Tm.nodess l := Nat.le_trans (Tm.typess_len _) (Tm.nodess_le_take l k)
end Go.Proofs.Grad
namespace Go.Proofs.Sh
attribute [go_sem] List.getD_cons_zero List.getD_cons_succ List.getD_nil
/-- a list of rows as a slice that has grown from nil -/
def grown (s b : Nat) : List (List C) → C | [] => .sc (.slice none 0 0) | r :: l => .row s b (l.length + 1)
end Go.Proofs.Sh
namespace Go.Proofs.Ytnaebafafhamjaa
open Go.RowKit Go.Proofs.Sh Go.Proofs.Grad
set_option maxRecDepth 100000
set_option maxHeartbeats 8000000
theorem iHasType (t : Tm) : AFn Try.prog 89 [.agg (teC t)] (.one (.sc (.bool (hasTy t.kind)))) := by
  refine fn_in ?_; refine acl_in Try.func89 rfl isfn_89 (Nat.le_of_ble_eq_true rfl) (fun R hR => ?_); rw [Try.results89] at hR; refine wg_run ?_; (simp only [Try.f89, go_sem])
  repeat' (first | (((first | apply sp1 | apply sp2 | apply sp3 | apply sp4 | apply sp5 | apply sp6 | apply sp7) <;> intro hb) <;> (simp only [go_sem, hb])) | ((first | apply wm_done | apply wt_done | apply wg_run | refine fk ?_ ?_) <;> (simp only [go_sem])))
  all_goals (refine hR _ (rat [] (hK := ⟨?_, rfl⟩)))
  all_goals simp_all [hasTy]
theorem iTypes (n : Nat) (hn : n ≤ 2199023255552) : ∀ t : Tm, t.size < n → AFn Try.prog 37 [.agg (teC t)] (.one (.sl (tyR t.types))) := by
  induction n with
  | zero => intro t h; omega
  | succ n ih =>
    intro t h
    have hl := telen_lt t
    have hnl := t.nodes_le
    have hne := t.nodes_eq
    have ho := iOwnTy _ (by omega) t.type (Nat.lt_of_lt_of_le (by cases t; simp only [Tm.size, Tm.type]; omega : t.type.size < t.size) (Nat.le_of_lt_succ h))
    have hh := iHasType t
    have e0 : ownTys t.kind t.type = (match hasTy t.kind with | true => [t.type] | false => []) := rfl
    cases hty : hasTy t.kind
    all_goals
      rw [hty] at hh e0
      simp only [] at e0
      refine fn_in ?_; refine acl_in Try.func37 rfl isfn_37 (Nat.le_of_ble_eq_true rfl) (fun R hR => ?_); rw [Try.results37] at hR; refine wg_run ?_; (simp only [Try.f37, go_sem])
      repeat' (first | (first | (((first | apply sp1 | apply sp2 | apply sp3 | apply sp4 | apply sp5 | apply sp6 | apply sp7) <;> intro hb) <;> (simp only [go_sem, hb])) | ((first | apply wm_done | apply wt_done | apply wg_run | refine fk ?_ ?_) <;> (simp only [go_sem]))) | (first | refine cdq ?_ (hc := hh) | refine cmq ?_ (hc := hh) | refine ctq ?_ (hc := hh)); (simp only [go_sem]) | (first | refine cdq ?_ (hc := ho) | refine cmq ?_ (hc := ho) | refine ctq ?_ (hc := ho)); (simp only [go_sem]))
      first
        | refine wd_for [3, 15, 16, 17] (fun (x : Nat × List Ty) => [.one (match x.2 with | [] => .sc (.slice none 0 0) | a :: l => .row 2 0 (l.length + 1)), .one (.sl (teR t.kids)), .one (.sc (.int .i64 t.kids.length)), .one (.sc (.int .i64 (x.1 : Nat)))])
            (fun x => match x.2 with | [] => [] | a :: l => [⟨2, 25, .mut, tyR (a :: l)⟩])
            (fun x => x.1 ≤ t.kids.length ∧ x.2 = ownTys t.kind t.type ++ Tm.typess (t.kids.take x.1)) (fun x => t.kids.length - x.1) (0, []) ⟨Nat.zero_le _, by rw [e0]; rfl⟩ (hat [] (hI := ⟨rfl, rfl⟩)) ?_
        | refine wd_for [3, 15, 16, 17] (fun (x : Nat × List Ty) => [.one (match x.2 with | [] => .sc (.slice none 0 0) | a :: l => .row 2 0 (l.length + 1)), .one (.sl (teR t.kids)), .one (.sc (.int .i64 t.kids.length)), .one (.sc (.int .i64 (x.1 : Nat)))])
            (fun x => match x.2 with | [] => [] | a :: l => [⟨2, 25, .mut, tyR (a :: l)⟩])
            (fun x => x.1 ≤ t.kids.length ∧ x.2 = ownTys t.kind t.type ++ Tm.typess (t.kids.take x.1)) (fun x => t.kids.length - x.1) (0, [t.type]) ⟨Nat.zero_le _, by rw [e0]; rfl⟩ (hat [2] (hI := ⟨rfl, rfl⟩)) ?_
      rintro ⟨k, acc⟩ ⟨hk, hacc⟩ G hG
      simp only [] at hk hacc hG
      have hal : acc.length ≤ 1 + Tm.nodess t.kids := by
        have := ownTys_len t.kind t.type; have := Tm.typess_take_len t.kids k
        rw [hacc, List.length_append]; omega
      rcases acc with _ | ⟨a, acc⟩
      all_goals
        refine wg_run ?_
        (simp only [go_sem])
        ((first | apply sp1 | apply sp2 | apply sp3 | apply sp4 | apply sp5 | apply sp6 | apply sp7) <;> intro hb) <;> (simp only [go_sem, hb])
        · have hk1 : k < t.kids.length := by have := of_decide_eq_true hb; omega
          have hw1 := wrap_succ hk1 (by omega)
          have hc := ih (by omega) (teKid t.kids k) (by have := teKid_lt hk1; omega)
          have hkl := Tm.types_len (teKid t.kids k)
          have hkn := Tm.nodess_le_take t.kids (k + 1)
          rw [Tm.nodess_take hk1] at hkn
          have hnx : ownTys t.kind t.type ++ Tm.typess (t.kids.take (k + 1)) = ownTys t.kind t.type ++ Tm.typess (t.kids.take k) ++ (teKid t.kids k).types := by rw [Tm.typess_take hk1, List.append_assoc]
          rw [← hacc] at hnx
          cases hkt : (teKid t.kids k).types with
          | nil =>
            rw [hkt] at hc hnx
            repeat' (first | (first | (simp only [go_sem, hw1, hb]) | (((first | apply sp1 | apply sp2 | apply sp3 | apply sp4 | apply sp5 | apply sp6 | apply sp7) <;> intro hb) <;> (simp only [go_sem, hb, hw1, hb])) | ((first | apply wm_done | apply wt_done | apply wg_run | refine fk ?_ ?_) <;> (simp only [go_sem, hw1, hb]))) | (first | refine cdq ?_ (hc := hc) | refine cmq ?_ (hc := hc) | refine ctq ?_ (hc := hc)); (simp only [go_sem]))
            rw [List.append_nil] at hnx
            first
              | exact hG (k + 1, []) _ _ ⟨by omega, hnx.symm⟩ (by simp only []; omega) (hat [] (hI := ⟨rfl, rfl⟩))
              | exact hG (k + 1, a :: acc) _ _ ⟨by omega, hnx.symm⟩ (by simp only []; omega) (hat [0] (hI := ⟨rfl, rfl⟩))
          | cons b m =>
            rw [hkt] at hc hnx hkl
            simp only [List.length_cons] at hkl hal
            have hcap1 : (m.length + 1) * 32 ≤ 140737488355328 := by omega
            first
              | (have hcap2 : (acc.length + 1 + (m.length + 1)) * 32 ≤ 140737488355328 := by omega
                 repeat' (first | (first | (simp only [go_sem, hw1, hb, hcap1, hcap2]) | (((first | apply sp1 | apply sp2 | apply sp3 | apply sp4 | apply sp5 | apply sp6 | apply sp7) <;> intro hb) <;> (simp only [go_sem, hb, hw1, hb, hcap1, hcap2])) | ((first | apply wm_done | apply wt_done | apply wg_run | refine fk ?_ ?_) <;> (simp only [go_sem, hw1, hb, hcap1, hcap2]))) | (first | refine cdq ?_ (hc := hc) | refine cmq ?_ (hc := hc) | refine ctq ?_ (hc := hc)); (simp only [go_sem]))
                 refine hG (k + 1, a :: acc ++ b :: m) _ _ ⟨by omega, hnx.symm⟩ (by simp only []; omega) (hat [2] (hI := ⟨?_, ?_⟩))
                 · simp only [List.cons_append, List.length_append, List.length_cons]
                   rw [show acc.length + 1 + (m.length + 1) = acc.length + (m.length + 1) + 1 by omega]
                 · simp only [List.cons_append, tyR, tyR_append])
              | (repeat' (first | (first | (simp only [go_sem, hw1, hb, hcap1]) | (((first | apply sp1 | apply sp2 | apply sp3 | apply sp4 | apply sp5 | apply sp6 | apply sp7) <;> intro hb) <;> (simp only [go_sem, hb, hw1, hb, hcap1])) | ((first | apply wm_done | apply wt_done | apply wg_run | refine fk ?_ ?_) <;> (simp only [go_sem, hw1, hb, hcap1]))) | (first | refine cdq ?_ (hc := hc) | refine cmq ?_ (hc := hc) | refine ctq ?_ (hc := hc)); (simp only [go_sem]))
                 refine hG (k + 1, b :: m) _ _ ⟨by omega, hnx.symm⟩ (by simp only []; omega) (hat [1] (hI := ⟨rfl, rfl⟩)))
        · have hk1 : t.kids.take k = t.kids := List.take_of_length_le (by have := of_decide_eq_false hb; omega)
          rw [hk1, ← Tm.types_eq] at hacc
          (refine hR _ (rat [] (hK := ⟨?_, rfl⟩)))
          rw [← hacc]; rfl

theorem l2Types (n : Nat) (hn : n ≤ 1099511627776) : ∀ t : Tm, t.size < n → ∀ l : List Ty, l.length ≤ 1099511627776 → l.length + t.nodes ≤ 1099511627776 → ACl Try.prog 97 [.one (.row 2 0 l.length), .agg (teC t)] [⟨2, 25, .mut, tyR l⟩]
    (fun r H' => (r = .one (.row 2 0 (l ++ t.types).length) ∧ H' = [⟨2, 25, .mut, tyR (l ++ t.types)⟩]) ∨ (r = .one (.row 2 1 (l ++ t.types).length) ∧ H' = [⟨2, 25, .dead, []⟩, ⟨2, 25, .mut, tyR (l ++ t.types)⟩])) := by
  induction n with
  | zero => intro t h; omega
  | succ n ih =>
    intro t h l hl0 hl1
    have hl := telen_lt t
    have hnl := t.nodes_le
    have hne := t.nodes_eq
    have ho := l1Copy _ (by omega) t.type (Nat.lt_of_lt_of_le (by cases t; simp only [Tm.size, Tm.type]; omega : t.type.size < t.size) (Nat.le_of_lt_succ h))
    have hcap0 : (l.length + 1) * 32 ≤ 140737488355328 := by omega
    have e0 : ownTys t.kind t.type = (match hasTy t.kind with | true => [t.type] | false => []) := rfl
    have hty : hasTy t.kind = (t.kind == 5 || t.kind == 13) := rfl
    have hcases : (hasTy t.kind = true ∧ (t.kind == 5) = true ∧ (t.kind == 13) = false) ∨ (hasTy t.kind = true ∧ (t.kind == 5) = false ∧ (t.kind == 13) = true) ∨ (hasTy t.kind = false ∧ (t.kind == 5) = false ∧ (t.kind == 13) = false) := by
      rw [hty]
      cases e5 : (t.kind == 5)
      · cases (t.kind == 13) <;> simp
      · have : (t.kind == 13) = false := by rw [beq_eq_false_iff_ne]; have := beq_iff_eq.1 e5; omega
        simp [this]
    rcases hcases with ⟨hT, hk5, hk13⟩ | ⟨hT, hk5, hk13⟩ | ⟨hT, hk5, hk13⟩
    all_goals
      rw [hT] at e0
      simp only [] at e0
      refine acl_in Try.func97 rfl isfn_97 (Nat.le_of_ble_eq_true rfl) (fun R hR => ?_); rw [Try.results97] at hR; refine wg_run ?_; (simp only [Try.f97, go_sem, hk5])
      repeat' (first | (first | (simp only [go_sem, hk5, hk13, hcap0]) | (((first | apply sp1 | apply sp2 | apply sp3 | apply sp4 | apply sp5 | apply sp6 | apply sp7) <;> intro hb) <;> (simp only [go_sem, hb, hk5, hk13, hcap0])) | ((first | apply wm_done | apply wt_done | apply wg_run | refine fk ?_ ?_) <;> (simp only [go_sem, hk5, hk13, hcap0]))) | (first | refine cdq ?_ (hc := ho) | refine cmq ?_ (hc := ho) | refine ctq ?_ (hc := ho)); (simp only [go_sem]))
      first
        | refine wd_for [0, 3, 5] (fun (x : Nat × Bool) => match x.2 with | false => [.one (.row 2 0 (l ++ (ownTys t.kind t.type ++ Tm.typess (t.kids.take x.1))).length), .one (.ptr 9 1 0 0), .one (.sc (.int .i64 (x.1 : Nat)))] | true => [.one (.row 2 1 (l ++ (ownTys t.kind t.type ++ Tm.typess (t.kids.take x.1))).length), .one (.ptr 9 2 0 0), .one (.sc (.int .i64 (x.1 : Nat)))])
            (fun x => match x.2 with | false => [⟨2, 25, .mut, tyR (l ++ (ownTys t.kind t.type ++ Tm.typess (t.kids.take x.1)))⟩, ⟨9, 28, .mut, [teC t]⟩] | true => [⟨2, 25, .dead, []⟩, ⟨2, 25, .mut, tyR (l ++ (ownTys t.kind t.type ++ Tm.typess (t.kids.take x.1)))⟩, ⟨9, 28, .mut, [teC t]⟩])
            (fun x => x.1 ≤ t.kids.length) (fun x => t.kids.length - x.1) (0, true) (Nat.zero_le _) (hat [3, 1] (hI := ⟨by rw [e0]; simp [Tm.typess], by rw [e0]; simp [Tm.typess, tyR_append, tyR]⟩)) ?_
        | refine wd_for [0, 3, 5] (fun (x : Nat × Bool) => match x.2 with | false => [.one (.row 2 0 (l ++ (ownTys t.kind t.type ++ Tm.typess (t.kids.take x.1))).length), .one (.ptr 9 1 0 0), .one (.sc (.int .i64 (x.1 : Nat)))] | true => [.one (.row 2 1 (l ++ (ownTys t.kind t.type ++ Tm.typess (t.kids.take x.1))).length), .one (.ptr 9 2 0 0), .one (.sc (.int .i64 (x.1 : Nat)))])
            (fun x => match x.2 with | false => [⟨2, 25, .mut, tyR (l ++ (ownTys t.kind t.type ++ Tm.typess (t.kids.take x.1)))⟩, ⟨9, 28, .mut, [teC t]⟩] | true => [⟨2, 25, .dead, []⟩, ⟨2, 25, .mut, tyR (l ++ (ownTys t.kind t.type ++ Tm.typess (t.kids.take x.1)))⟩, ⟨9, 28, .mut, [teC t]⟩])
            (fun x => x.1 ≤ t.kids.length) (fun x => t.kids.length - x.1) (0, false) (Nat.zero_le _) (hat [1] (hI := ⟨by rw [e0]; simp [Tm.typess]; done, by rw [e0]; simp [Tm.typess]; done⟩)) ?_
      rintro ⟨k, mv⟩ hk G hG
      simp only [] at hk
      have hal : (l ++ (ownTys t.kind t.type ++ Tm.typess (t.kids.take k))).length ≤ l.length + 1 + Tm.nodess (t.kids.take k) := by
        have := ownTys_len t.kind t.type; have := Tm.typess_len (t.kids.take k)
        simp only [List.length_append]; omega
      rcases mv with _ | _
      all_goals
        refine wg_run ?_
        (simp only [go_sem])
        ((first | apply sp1 | apply sp2 | apply sp3 | apply sp4 | apply sp5 | apply sp6 | apply sp7) <;> intro hb) <;> (simp only [go_sem, hb])
        · have hk1 : k < t.kids.length := by have := of_decide_eq_true hb; omega
          have hw1 := wrap_succ hk1 (by omega)
          have hkn := Tm.nodess_le_take t.kids (k + 1)
          rw [Tm.nodess_take hk1] at hkn
          have hc := ih (by omega) (teKid t.kids k) (by have := teKid_lt hk1; omega) (l ++ (ownTys t.kind t.type ++ Tm.typess (t.kids.take k))) (by omega) (by omega)
          have hnx : l ++ (ownTys t.kind t.type ++ Tm.typess (t.kids.take k)) ++ (teKid t.kids k).types = l ++ (ownTys t.kind t.type ++ Tm.typess (t.kids.take (k + 1))) := by rw [Tm.typess_take hk1]; simp only [List.append_assoc]
          rw [hnx] at hc
          first
            | (repeat' (first | (first | (simp only [go_sem, hw1, hb]) | (((first | apply sp1 | apply sp2 | apply sp3 | apply sp4 | apply sp5 | apply sp6 | apply sp7) <;> intro hb) <;> (simp only [go_sem, hb, hw1, hb])) | ((first | apply wm_done | apply wt_done | apply wg_run | refine fk ?_ ?_) <;> (simp only [go_sem, hw1, hb]))) | ((first | refine kdq [0] ?_ (hc := hc) | refine kmq [0] ?_ (hc := hc) | refine ktq [0] ?_ (hc := hc)); rintro _ _ (⟨rfl, rfl⟩ | ⟨rfl, rfl⟩) <;> (simp only [go_sem])))
               all_goals (try (simp only [go_sem, hw1]))
               · exact hG (k + 1, false) _ _ (by simp only []; omega) (by simp only []; omega) (hat [1] (hI := ⟨rfl, rfl⟩))
               · exact hG (k + 1, true) _ _ (by simp only []; omega) (by simp only []; omega) (hat [2, 1] (hI := ⟨rfl, rfl⟩)))
            | (repeat' (first | (first | (simp only [go_sem, hw1, hb]) | (((first | apply sp1 | apply sp2 | apply sp3 | apply sp4 | apply sp5 | apply sp6 | apply sp7) <;> intro hb) <;> (simp only [go_sem, hb, hw1, hb])) | ((first | apply wm_done | apply wt_done | apply wg_run | refine fk ?_ ?_) <;> (simp only [go_sem, hw1, hb]))) | ((first | refine kdq [1] ?_ (hc := hc) | refine kmq [1] ?_ (hc := hc) | refine ktq [1] ?_ (hc := hc)); rintro _ _ (⟨rfl, rfl⟩ | ⟨rfl, rfl⟩) <;> (simp only [go_sem])))
               all_goals (try (simp only [go_sem, hw1]))
               · exact hG (k + 1, true) _ _ (by simp only []; omega) (by simp only []; omega) (hat [1, 2] (hI := ⟨rfl, rfl⟩))
               · exact hG (k + 1, true) _ _ (by simp only []; omega) (by simp only []; omega) (hat [3, 2] (hI := ⟨rfl, rfl⟩)))
        · have hk1 : t.kids.take k = t.kids := List.take_of_length_le (by have := of_decide_eq_false hb; omega)
          have htl : (ownTys t.kind t.type).length + (Tm.typess t.kids).length = t.types.length := by rw [Tm.types_eq, List.length_append]
          rw [hk1, ← Tm.types_eq]
          first
            | exact hR _ (ret_own [] (by (simp only [go_sem, htl]); first | done | rfl) (by (simp only [go_sem, htl]); first | done | rfl) (.inl ⟨rfl, rfl⟩))
            | exact hR _ (ret_own [1] (by (simp only [go_sem, htl]); first | done | rfl) (by (simp only [go_sem, htl]); first | done | rfl) (.inr ⟨rfl, rfl⟩))
end Go.Proofs.Ytnaebafafhamjaa
/- Types: counting what is unknown, on shadows. -/
namespace Go.Proofs.Ytnaebafafhamjaa
open Go.RowKit Go.Proofs.Sh Go.Proofs.Grad
set_option maxRecDepth 100000
set_option maxHeartbeats 4000000
end Go.Proofs.Ytnaebafafhamjaa
/- Terms: slots, precision; on shadows. -/
namespace Go.Proofs.Grad
/-- the types of a valid term -/
noncomputable def Tm.typesV (t : Tm) : List Ty := match t.termV with | true => t.types | false => []
end Go.Proofs.Grad
namespace Go.Proofs.Ytnaebafafhamjaa
open Go.RowKit Go.Proofs.Sh Go.Proofs.Grad
set_option maxRecDepth 100000
set_option maxHeartbeats 8000000
theorem sTermTypes (t : Tm) (h : t.size < 1099511627776) : AFn Try.prog 43 [.agg (teC t)] (.one (.sl (tyR t.typesV))) := by
  have hv := sTermV t (by omega)
  have hnl := t.nodes_le
  have hc := l2Types _ (Nat.le_refl _) t h [] (by simp) (by simp; omega)
  simp only [List.length_nil, List.nil_append, tyR] at hc
  unfold Tm.typesV
  cases hb : t.termV
  all_goals
    rw [hb] at hv
    refine fn_in ?_; refine acl_in Try.func43 rfl isfn_43 (Nat.le_of_ble_eq_true rfl) (fun R hR => ?_); rw [Try.results43] at hR; refine wg_run ?_; (simp only [Try.f43, go_sem])
    repeat' (first | (first | (((first | apply sp1 | apply sp2 | apply sp3 | apply sp4 | apply sp5 | apply sp6 | apply sp7) <;> intro hb) <;> (simp only [go_sem, hb])) | ((first | apply wm_done | apply wt_done | apply wg_run | refine fk ?_ ?_) <;> (simp only [go_sem]))) | (first | refine cdq ?_ (hc := hv) | refine cmq ?_ (hc := hv) | refine ctq ?_ (hc := hv)); (simp only [go_sem]) | ((first | refine kdq [1] ?_ (hc := hc) | refine kmq [1] ?_ (hc := hc) | refine ktq [1] ?_ (hc := hc)); rintro _ _ (⟨rfl, rfl⟩ | ⟨rfl, rfl⟩) <;> (simp only [go_sem])))
    all_goals (refine hR _ (rat [] (hK := ⟨?_, rfl⟩)))
    all_goals rfl
end Go.Proofs.Ytnaebafafhamjaa
