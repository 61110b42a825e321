/- Texts of the proof, one behind another. -/
import Derived.Test.YtnaebafafhamjaaGreatKY15
import Derived.Test.YtnaebafafhamjaaGreatKY16
import Derived.Test.YtnaebafafhamjaaGreatKY23
import Derived.Test.YtnaebafafhamjaaGreatKY24
import Derived.Test.YtnaebafafhamjaaGreatKY25
set_option linter.unusedSimpArgs false
set_option linter.unusedVariables false
/- The reference's draws of typed terms, and of terms with casts. On shadows. -/
namespace Go.Proofs.YtnaebafafhamjaaGreat
open Go.RowKit Go.Proofs.Sh Go.Proofs.Grad
set_option maxRecDepth 100000
set_option maxHeartbeats 16000000
theorem T.depth_pos (t : T) : 1 ≤ t.depth := by cases t <;> simp [T.depth]
theorem make1 (bs : List Int) (hB : Bs bs) (d : Int) (h0 : -900 ≤ d) (h1 : d ≤ 1) (t : T) (ht : t.depth ≤ 1) : MakeC bs d t 7 898000000 130 30 :=
  l3MakeB bs hB d (by omega) (by omega) h1 t (by omega) 7 898000000 0 0 (by omega) (by omega) (fun u hu => by have := T.depth_pos u; omega)
theorem make2 (bs : List Int) (hB : Bs bs) (d : Int) (h0 : -800 ≤ d) (h1 : d ≤ 1) (t : T) (ht : t.depth ≤ 2) : MakeC bs d t 6 897000000 390 90 :=
  l3MakeB bs hB d (by omega) (by omega) h1 t (by omega) 6 897000000 130 30 (by omega) (by omega) (fun u hu => (make1 bs hB (d - 1) (by omega) (by omega) u (by omega)).mono (by omega) (by omega) (by omega) (by omega))
theorem make3 (bs : List Int) (hB : Bs bs) (d : Int) (h0 : -700 ≤ d) (h1 : d ≤ 1) (t : T) (ht : t.depth ≤ 3) : MakeC bs d t 5 896000000 910 210 :=
  l3MakeB bs hB d (by omega) (by omega) h1 t (by omega) 5 896000000 390 90 (by omega) (by omega) (fun u hu => (make2 bs hB (d - 1) (by omega) (by omega) u (by omega)).mono (by omega) (by omega) (by omega) (by omega))
theorem make4 (bs : List Int) (hB : Bs bs) (d : Int) (h0 : -600 ≤ d) (h1 : d ≤ 1) (t : T) (ht : t.depth ≤ 4) : MakeC bs d t 4 895000000 1950 450 :=
  l3MakeB bs hB d (by omega) (by omega) h1 t (by omega) 4 895000000 910 210 (by omega) (by omega) (fun u hu => (make3 bs hB (d - 1) (by omega) (by omega) u (by omega)).mono (by omega) (by omega) (by omega) (by omega))
theorem make5 (bs : List Int) (hB : Bs bs) (t : T) (ht : t.depth ≤ 4) : MakeC bs 2 t 3 894000000 5980 1380 :=
  have h : ∀ u : T, u.depth ≤ 4 → MakeC bs (2 - 1) u (3 + 1) (894000000 + 3 * 1950 + 200) 1950 450 := fun u hu => (make4 bs hB (2 - 1) (by omega) (by omega) u hu).mono (by omega) (by omega) (by omega) (by omega)
  l3MakeD bs hB 2 (by omega) (by omega) (by omega) t ht 3 894000000 1950 450 (by omega) (by omega) (fun u hu => h u (by omega)) (fun _ => h)
theorem make6 (bs : List Int) (hB : Bs bs) (t : T) (ht : t.depth ≤ 4) : MakeC bs 3 t 2 893000000 18070 4170 :=
  have h : ∀ u : T, u.depth ≤ 4 → MakeC bs (3 - 1) u (2 + 1) (893000000 + 3 * 5980 + 200) 5980 1380 := fun u hu => (make5 bs hB u hu).mono (by omega) (by omega) (by omega) (by omega)
  l3MakeD bs hB 3 (by omega) (by omega) (by omega) t ht 2 893000000 5980 1380 (by omega) (by omega) (fun u hu => h u (by omega)) (fun _ => h)
theorem make7 (bs : List Int) (hB : Bs bs) (t : T) (ht : t.depth ≤ 4) : MakeC bs 4 t 1 892000000 54340 12540 :=
  have h : ∀ u : T, u.depth ≤ 4 → MakeC bs (4 - 1) u (1 + 1) (892000000 + 3 * 18070 + 200) 18070 4170 := fun u hu => (make6 bs hB u hu).mono (by omega) (by omega) (by omega) (by omega)
  l3MakeD bs hB 4 (by omega) (by omega) (by omega) t ht 1 892000000 18070 4170 (by omega) (by omega) (fun u hu => h u (by omega)) (fun _ => h)
theorem make8 (bs : List Int) (hB : Bs bs) (t : T) (ht : t.depth ≤ 4) : MakeC bs 5 t 0 891000000 163150 37650 :=
  have h : ∀ u : T, u.depth ≤ 4 → MakeC bs (5 - 1) u (0 + 1) (891000000 + 3 * 54340 + 200) 54340 12540 := fun u hu => (make7 bs hB u hu).mono (by omega) (by omega) (by omega) (by omega)
  l3MakeD bs hB 5 (by omega) (by omega) (by omega) t ht 0 891000000 54340 12540 (by omega) (by omega) (fun u hu => h u (by omega)) (fun _ => h)
theorem make9 (bs : List Int) (hB : Bs bs) (z : Int) (hz : z ∈ [4, 3, 5, 4]) (t : T) (ht : t.depth ≤ 4) (p : Nat) (hp : p < 890000000) :
    ACl Tryz.prog 153 [.one (.ptr 2 0 0 0), .one (.sl (bdR [])), .agg (tyC t.ty), .one (.sc (.int .i64 z))] [(⟨2, 115, .mut, [[.sl (byR bs), .sc (.int .i64 ((p : Nat) : Int))]]⟩ : Blk)] (DrawsE bs p 163150 37650) := by
  have h : MakeC bs z t 0 890000000 163150 37650 := by
    simp only [List.mem_cons, List.not_mem_nil, or_false] at hz
    rcases hz with rfl | rfl | rfl | rfl
    · exact (make7 bs hB t ht).mono (by omega) (by omega) (by omega) (by omega)
    · exact (make6 bs hB t ht).mono (by omega) (by omega) (by omega) (by omega)
    · exact (make8 bs hB t ht).mono (by omega) (by omega) (by omega) (by omega)
    · exact (make7 bs hB t ht).mono (by omega) (by omega) (by omega) (by omega)
  exact h [] (by simp) ctxOk_nil ctxN_nil p hp
theorem l3Typed (bs : List Int) (hB : Bs bs) (p : Nat) (hp : p < 700000000) : ACl Tryz.prog 106 [.one (.ptr 2 0 0 0)] [(⟨2, 115, .mut, [[.sl (byR bs), .sc (.int .i64 ((p : Nat) : Int))]]⟩ : Blk)] (DrawsE bs p 660000 37650) := by
  refine acl_in Tryz.func106 rfl isfn_106 (Nat.le_of_ble_eq_true rfl) (fun R hR => ?_); rw [Tryz.results106] at hR; refine wg_run ?_; (simp only [Tryz.f106, go_sem])
  refine wd_for [0, 2, 3] (fun (x : Nat × Nat) => [.one (.ptr 2 0 0 0), .one (.ptr 9 1 0 0), .one (.sc (.int .i64 (x.1 : Nat)))])
    (fun x => [(⟨2, 115, .mut, [[.sl (byR bs), .sc (.int .i64 ((x.2 : Nat) : Int))]]⟩ : Blk), ⟨9, 28, .mut, [[.sc (.int .i64 0), .sc (.string { data := { toList := [] } }), .sc (.int .i64 0), .sc (.int .i64 0), .sc (.slice none 0 0), .sc (.int .i64 0), .sc (.slice none 0 0), .sc (.int .i64 0), .sc (.slice none 0 0)]]⟩])
    (fun x => x.1 ≤ 4 ∧ x.2 ≤ p + x.1 * 163300) (fun x => 4 - x.1) (0, p) ⟨by omega, by omega⟩ (hat [1] (hI := ⟨rfl, rfl⟩)) ?_
  rintro ⟨i, q⟩ ⟨hi, hq⟩ G hG
  simp only [] at hi hq
  refine wg_run ?_
  by_cases hi4 : i < 4
  · have d1 : decide ((i : Int) < 4) = true := by simp; omega
    have hw1 : IntKind.i64.wrap ((i : Int) + 1) = ((i + 1 : Nat) : Int) := by rw [IntWalk.i64_in _ (by omega)]; omega
    (simp only [go_sem, d1])
    repeat' (first | (first | (simp only [go_sem, d1]) | (((first | apply sp1 | apply sp2 | apply sp3 | apply sp4 | apply sp5 | apply sp6 | apply sp7) <;> intro hb) <;> (simp only [go_sem, hb, d1])) | ((first | apply wm_done | apply wt_done | apply wg_run | refine fk ?_ ?_) <;> (simp only [go_sem, d1]))) | fail)
    ((first | refine kdq [0] ?_ (hc := num bs hB _ (by omega) [1, 2, 2, 3] (by decide) (by decide)) | refine kmq [0] ?_ (hc := num bs hB _ (by omega) [1, 2, 2, 3] (by decide) (by decide)) | refine ktq [0] ?_ (hc := num bs hB _ (by omega) [1, 2, 2, 3] (by decide) (by decide))); rintro _ _ ⟨z, rfl, hz, rfl⟩; (simp only [go_sem]))
    repeat' (first | (first | (simp only [go_sem, d1]) | (((first | apply sp1 | apply sp2 | apply sp3 | apply sp4 | apply sp5 | apply sp6 | apply sp7) <;> intro hb) <;> (simp only [go_sem, hb, d1])) | ((first | apply wm_done | apply wt_done | apply wg_run | refine fk ?_ ?_) <;> (simp only [go_sem, d1]))) | fail)
    simp only [List.mem_cons, List.not_mem_nil, or_false] at hz
    obtain ⟨j, rfl, hj1, hj4⟩ : ∃ j : Nat, z = (j : Int) ∧ 1 ≤ j ∧ j ≤ 3 := ⟨z.toNat, by omega, by omega, by omega⟩
    ((first | refine kdq [0] ?_ (hc := l1Draw bs hB j hj1 (by omega) _ (by omega)) | refine kmq [0] ?_ (hc := l1Draw bs hB j hj1 (by omega) _ (by omega)) | refine ktq [0] ?_ (hc := l1Draw bs hB j hj1 (by omega) _ (by omega))); rintro _ _ ⟨x1, q1, rfl, hx1, hq1, rfl⟩; (simp only [go_sem]))
    repeat' (first | (first | (simp only [go_sem, d1]) | (((first | apply sp1 | apply sp2 | apply sp3 | apply sp4 | apply sp5 | apply sp6 | apply sp7) <;> intro hb) <;> (simp only [go_sem, hb, d1])) | ((first | apply wm_done | apply wt_done | apply wg_run | refine fk ?_ ?_) <;> (simp only [go_sem, d1]))) | fail)
    ((first | refine kdq [0] ?_ (hc := num bs hB _ (by omega) [4, 3, 5, 4] (by decide) (by decide)) | refine kmq [0] ?_ (hc := num bs hB _ (by omega) [4, 3, 5, 4] (by decide) (by decide)) | refine ktq [0] ?_ (hc := num bs hB _ (by omega) [4, 3, 5, 4] (by decide) (by decide))); rintro _ _ ⟨z, rfl, hz, rfl⟩; (simp only [go_sem]))
    repeat' (first | (first | (simp only [go_sem, d1]) | (((first | apply sp1 | apply sp2 | apply sp3 | apply sp4 | apply sp5 | apply sp6 | apply sp7) <;> intro hb) <;> (simp only [go_sem, hb, d1])) | ((first | apply wm_done | apply wt_done | apply wg_run | refine fk ?_ ?_) <;> (simp only [go_sem, d1]))) | fail)
    ((first | refine kdq [0] ?_ (hc := make9 bs hB z hz x1 (by omega) _ (by omega)) | refine kmq [0] ?_ (hc := make9 bs hB z hz x1 (by omega) _ (by omega)) | refine ktq [0] ?_ (hc := make9 bs hB z hz x1 (by omega) _ (by omega))); rintro _ _ ⟨e, q2, rfl, he, hc, hs, hq2, rfl⟩; (simp only [go_sem]))
    have ht := sTypeOf e he hc (by omega)
    repeat' (first | (first | (simp only [go_sem, d1]) | (((first | apply sp1 | apply sp2 | apply sp3 | apply sp4 | apply sp5 | apply sp6 | apply sp7) <;> intro hb) <;> (simp only [go_sem, hb, d1])) | ((first | apply wm_done | apply wt_done | apply wg_run | refine fk ?_ ?_) <;> (simp only [go_sem, d1]))) | ((first | refine kdq [] ?_ (hc := ht) | refine kmq [] ?_ (hc := ht) | refine ktq [] ?_ (hc := ht)); rintro _ _ (⟨t, et, rfl, rfl⟩ | ⟨rfl, rfl⟩) <;> (simp only [go_sem])) | fail)
    · exact hR _ (rat [] (hK := ⟨e, q2, rfl, he, hc, hs, by omega, rfl⟩))
    · repeat' (first | (first | (simp only [go_sem, hw1]) | (((first | apply sp1 | apply sp2 | apply sp3 | apply sp4 | apply sp5 | apply sp6 | apply sp7) <;> intro hb) <;> (simp only [go_sem, hb, hw1])) | ((first | apply wm_done | apply wt_done | apply wg_run | refine fk ?_ ?_) <;> (simp only [go_sem, hw1]))) | fail)
      exact hG (i + 1, q2) _ _ ⟨by simp only []; omega, by simp only []; omega⟩ (by simp only []; omega) (hat [1] (hI := ⟨rfl, rfl⟩))
  · have d1 : decide ((i : Int) < 4) = false := by simp; omega
    clear hG
    (simp only [go_sem, d1])
    repeat' (first | (first | (simp only [go_sem, d1]) | (((first | apply sp1 | apply sp2 | apply sp3 | apply sp4 | apply sp5 | apply sp6 | apply sp7) <;> intro hb) <;> (simp only [go_sem, hb, d1])) | ((first | apply wm_done | apply wt_done | apply wg_run | refine fk ?_ ?_) <;> (simp only [go_sem, d1]))) | fail)
    ((first | refine kdq [0] ?_ (hc := l2Closed bs hB _ (by omega)) | refine kmq [0] ?_ (hc := l2Closed bs hB _ (by omega)) | refine ktq [0] ?_ (hc := l2Closed bs hB _ (by omega))); rintro _ _ ⟨e, q2, rfl, he, hc, hs, hq2, rfl⟩; (simp only [go_sem]))
    repeat' (first | (first | (((first | apply sp1 | apply sp2 | apply sp3 | apply sp4 | apply sp5 | apply sp6 | apply sp7) <;> intro hb) <;> (simp only [go_sem, hb])) | ((first | apply wm_done | apply wt_done | apply wg_run | refine fk ?_ ?_) <;> (simp only [go_sem]))) | fail)
    exact hR _ (rat [] (hK := ⟨e, q2, rfl, he, hc, by omega, by omega, rfl⟩))
end Go.Proofs.YtnaebafafhamjaaGreat
/- Evaluation of terms with casts. No program, no world. -/
namespace Go.Proofs.Grad
/-- what StepCast makes of a valid term -/
inductive SC where
  | value (e : E) | took (e : E) | blame (l : Int) | stuck | large
def SC.tm : SC → Tm | .value e => e.tm | .took e => e.tm | _ => tm0
def SC.code : SC → Int | .value _ => 0 | .took _ => 1 | .blame _ => 2 | .stuck => 3 | .large => 4
def SC.lab : SC → Int | .blame l => l | _ => 0
def E.sc (e : E) : SC := match e.val with
  | true => .value e
  | false => match e.step with | .took x => (match x.okC with | true => .took x | false => .large) | .blame l => .blame l | .stuck => .stuck
/-- the result of an evaluation -/
def SC.fin : SC → SC × Bool | .took _ => (.stuck, true) | r => (r, false)
end Go.Proofs.Grad
/- Steps of terms with casts: how large what they make is. No program, no world. -/
namespace Go.Proofs.Grad
def SR.few (r : SR) (n : Nat) : Prop := match r with | .took e => e.nodes ≤ n | _ => True
end Go.Proofs.Grad
/- Steps of terms with casts: substitution and the rules, in the program. On shadows. -/
namespace Go.Proofs.Grad
end Go.Proofs.Grad
namespace Go.Proofs.YtnaebafafhamjaaGreat
open Go.RowKit Go.Proofs.Sh Go.Proofs.Grad
set_option maxRecDepth 100000
set_option maxHeartbeats 8000000
end Go.Proofs.YtnaebafafhamjaaGreat
/- Steps of terms with casts: values and ground types, as forms. -/
namespace Go.Proofs.Grad
end Go.Proofs.Grad
/- Steps of terms with casts: the rules, in the program. On shadows. -/
namespace Go.Proofs.YtnaebafafhamjaaGreat
open Go.RowKit Go.Proofs.Sh Go.Proofs.Grad
set_option maxRecDepth 100000
set_option maxHeartbeats 8000000
end Go.Proofs.YtnaebafafhamjaaGreat
