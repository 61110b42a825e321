/- Texts of the proof, one behind another. -/
import Derived.Test.YtjmicohbnpbemaaGreatKF13
import Derived.Test.YtjmicohbnpbemaaGreatKF14
import Derived.Test.YtjmicohbnpbemaaGreatKF18
import Derived.Test.YtjmicohbnpbemaaGreatKF19
import Derived.Test.YtjmicohbnpbemaaGreatKF20
set_option linter.unusedSimpArgs false
set_option linter.unusedVariables false
/- The reference's draws of typed terms, and of terms with casts. On shadows. -/
namespace Go.Proofs.YtjmicohbnpbemaaGreat
open Go.RowKit Go.Proofs.Sh Go.Proofs.Grad
set_option maxRecDepth 100000
set_option maxHeartbeats 16000000
theorem T.depth_pos (t : T) : 1 ≤ t.depth := by cases t <;> simp [T.depth]
theorem make1 (bs : List Int) (hB : Bs bs) (d : Int) (h0 : -900 ≤ d) (h1 : d ≤ 1) (t : T) (ht : t.depth ≤ 1) : MakeC bs d t 7 898000000 130 30 :=
  l3MakeB bs hB d (by omega) (by omega) h1 t (by omega) 7 898000000 0 0 (by omega) (by omega) (fun u hu => by have := T.depth_pos u; omega)
theorem make2 (bs : List Int) (hB : Bs bs) (d : Int) (h0 : -800 ≤ d) (h1 : d ≤ 1) (t : T) (ht : t.depth ≤ 2) : MakeC bs d t 6 897000000 390 90 :=
  l3MakeB bs hB d (by omega) (by omega) h1 t (by omega) 6 897000000 130 30 (by omega) (by omega) (fun u hu => (make1 bs hB (d - 1) (by omega) (by omega) u (by omega)).mono (by omega) (by omega) (by omega) (by omega))
theorem make3 (bs : List Int) (hB : Bs bs) (d : Int) (h0 : -700 ≤ d) (h1 : d ≤ 1) (t : T) (ht : t.depth ≤ 3) : MakeC bs d t 5 896000000 910 210 :=
  l3MakeB bs hB d (by omega) (by omega) h1 t (by omega) 5 896000000 390 90 (by omega) (by omega) (fun u hu => (make2 bs hB (d - 1) (by omega) (by omega) u (by omega)).mono (by omega) (by omega) (by omega) (by omega))
theorem make4 (bs : List Int) (hB : Bs bs) (d : Int) (h0 : -600 ≤ d) (h1 : d ≤ 1) (t : T) (ht : t.depth ≤ 4) : MakeC bs d t 4 895000000 1950 450 :=
  l3MakeB bs hB d (by omega) (by omega) h1 t (by omega) 4 895000000 910 210 (by omega) (by omega) (fun u hu => (make3 bs hB (d - 1) (by omega) (by omega) u (by omega)).mono (by omega) (by omega) (by omega) (by omega))
theorem make5 (bs : List Int) (hB : Bs bs) (t : T) (ht : t.depth ≤ 4) : MakeC bs 2 t 3 894000000 5980 1380 :=
  have h : ∀ u : T, u.depth ≤ 4 → MakeC bs (2 - 1) u (3 + 1) (894000000 + 3 * 1950 + 200) 1950 450 := fun u hu => (make4 bs hB (2 - 1) (by omega) (by omega) u hu).mono (by omega) (by omega) (by omega) (by omega)
  l3MakeD bs hB 2 (by omega) (by omega) (by omega) t ht 3 894000000 1950 450 (by omega) (by omega) (fun u hu => h u (by omega)) (fun _ => h)
theorem make6 (bs : List Int) (hB : Bs bs) (t : T) (ht : t.depth ≤ 4) : MakeC bs 3 t 2 893000000 18070 4170 :=
  have h : ∀ u : T, u.depth ≤ 4 → MakeC bs (3 - 1) u (2 + 1) (893000000 + 3 * 5980 + 200) 5980 1380 := fun u hu => (make5 bs hB u hu).mono (by omega) (by omega) (by omega) (by omega)
  l3MakeD bs hB 3 (by omega) (by omega) (by omega) t ht 2 893000000 5980 1380 (by omega) (by omega) (fun u hu => h u (by omega)) (fun _ => h)
theorem make7 (bs : List Int) (hB : Bs bs) (t : T) (ht : t.depth ≤ 4) : MakeC bs 4 t 1 892000000 54340 12540 :=
  have h : ∀ u : T, u.depth ≤ 4 → MakeC bs (4 - 1) u (1 + 1) (892000000 + 3 * 18070 + 200) 18070 4170 := fun u hu => (make6 bs hB u hu).mono (by omega) (by omega) (by omega) (by omega)
  l3MakeD bs hB 4 (by omega) (by omega) (by omega) t ht 1 892000000 18070 4170 (by omega) (by omega) (fun u hu => h u (by omega)) (fun _ => h)
theorem make8 (bs : List Int) (hB : Bs bs) (t : T) (ht : t.depth ≤ 4) : MakeC bs 5 t 0 891000000 163150 37650 :=
  have h : ∀ u : T, u.depth ≤ 4 → MakeC bs (5 - 1) u (0 + 1) (891000000 + 3 * 54340 + 200) 54340 12540 := fun u hu => (make7 bs hB u hu).mono (by omega) (by omega) (by omega) (by omega)
  l3MakeD bs hB 5 (by omega) (by omega) (by omega) t ht 0 891000000 54340 12540 (by omega) (by omega) (fun u hu => h u (by omega)) (fun _ => h)
theorem make9 (bs : List Int) (hB : Bs bs) (z : Int) (hz : z ∈ [4, 3, 5, 4]) (t : T) (ht : t.depth ≤ 4) (p : Nat) (hp : p < 890000000) :
    ACl Tryz.prog 132 [.one (.ptr 2 0 0 0), .one (.sl (bdR [])), .agg (tyC t.ty), .one (.sc (.int .i64 z))] [(⟨2, 84, .mut, [[.sl (byR bs), .sc (.int .i64 ((p : Nat) : Int))]]⟩ : Blk)] (DrawsE bs p 163150 37650) := by
  have h : MakeC bs z t 0 890000000 163150 37650 := by
    simp only [List.mem_cons, List.not_mem_nil, or_false] at hz
    rcases hz with rfl | rfl | rfl | rfl
    · exact (make7 bs hB t ht).mono (by omega) (by omega) (by omega) (by omega)
    · exact (make6 bs hB t ht).mono (by omega) (by omega) (by omega) (by omega)
    · exact (make8 bs hB t ht).mono (by omega) (by omega) (by omega) (by omega)
    · exact (make7 bs hB t ht).mono (by omega) (by omega) (by omega) (by omega)
  exact h [] (by simp) ctxOk_nil ctxN_nil p hp
theorem l3Typed (bs : List Int) (hB : Bs bs) (p : Nat) (hp : p < 700000000) : ACl Tryz.prog 82 [.one (.ptr 2 0 0 0)] [(⟨2, 84, .mut, [[.sl (byR bs), .sc (.int .i64 ((p : Nat) : Int))]]⟩ : Blk)] (DrawsE bs p 660000 37650) := by
  refine acl_in Tryz.func82 rfl isfn_82 (Nat.le_of_ble_eq_true rfl) (fun R hR => ?_); rw [Tryz.results82] at hR; refine wg_run ?_; (simp only [Tryz.f82, go_sem])
  refine wd_for [0, 2, 3] (fun (x : Nat × Nat) => [.one (.ptr 2 0 0 0), .one (.ptr 9 1 0 0), .one (.sc (.int .i64 (x.1 : Nat)))])
    (fun x => [(⟨2, 84, .mut, [[.sl (byR bs), .sc (.int .i64 ((x.2 : Nat) : Int))]]⟩ : Blk), ⟨9, 28, .mut, [[.sc (.int .i64 0), .sc (.string { data := { toList := [] } }), .sc (.int .i64 0), .sc (.int .i64 0), .sc (.slice none 0 0), .sc (.int .i64 0), .sc (.slice none 0 0), .sc (.int .i64 0), .sc (.slice none 0 0)]]⟩])
    (fun x => x.1 ≤ 4 ∧ x.2 ≤ p + x.1 * 163300) (fun x => 4 - x.1) (0, p) ⟨by omega, by omega⟩ (hat [1] (hI := ⟨rfl, rfl⟩)) ?_
  rintro ⟨i, q⟩ ⟨hi, hq⟩ G hG
  simp only [] at hi hq
  refine wg_run ?_
  by_cases hi4 : i < 4
  · have d1 : decide ((i : Int) < 4) = true := by simp; omega
    have hw1 : IntKind.i64.wrap ((i : Int) + 1) = ((i + 1 : Nat) : Int) := by rw [IntWalk.i64_in _ (by omega)]; omega
    (simp only [go_sem, d1])
    repeat' (first | (first | (simp only [go_sem, d1]) | (((first | apply sp1 | apply sp2 | apply sp3 | apply sp4 | apply sp5 | apply sp6 | apply sp7) <;> intro hb) <;> (simp only [go_sem, hb, d1])) | ((first | apply wm_done | apply wt_done | apply wg_run | refine fk ?_ ?_) <;> (simp only [go_sem, d1]))) | fail)
    ((first | refine kdq [0] ?_ (hc := num bs hB _ (by omega) [1, 2, 2, 3] (by decide) (by decide)) | refine kmq [0] ?_ (hc := num bs hB _ (by omega) [1, 2, 2, 3] (by decide) (by decide)) | refine ktq [0] ?_ (hc := num bs hB _ (by omega) [1, 2, 2, 3] (by decide) (by decide))); rintro _ _ ⟨z, rfl, hz, rfl⟩; (simp only [go_sem]))
    repeat' (first | (first | (simp only [go_sem, d1]) | (((first | apply sp1 | apply sp2 | apply sp3 | apply sp4 | apply sp5 | apply sp6 | apply sp7) <;> intro hb) <;> (simp only [go_sem, hb, d1])) | ((first | apply wm_done | apply wt_done | apply wg_run | refine fk ?_ ?_) <;> (simp only [go_sem, d1]))) | fail)
    simp only [List.mem_cons, List.not_mem_nil, or_false] at hz
    obtain ⟨j, rfl, hj1, hj4⟩ : ∃ j : Nat, z = (j : Int) ∧ 1 ≤ j ∧ j ≤ 3 := ⟨z.toNat, by omega, by omega, by omega⟩
    ((first | refine kdq [0] ?_ (hc := l1Draw bs hB j hj1 (by omega) _ (by omega)) | refine kmq [0] ?_ (hc := l1Draw bs hB j hj1 (by omega) _ (by omega)) | refine ktq [0] ?_ (hc := l1Draw bs hB j hj1 (by omega) _ (by omega))); rintro _ _ ⟨x1, q1, rfl, hx1, hq1, rfl⟩; (simp only [go_sem]))
    repeat' (first | (first | (simp only [go_sem, d1]) | (((first | apply sp1 | apply sp2 | apply sp3 | apply sp4 | apply sp5 | apply sp6 | apply sp7) <;> intro hb) <;> (simp only [go_sem, hb, d1])) | ((first | apply wm_done | apply wt_done | apply wg_run | refine fk ?_ ?_) <;> (simp only [go_sem, d1]))) | fail)
    ((first | refine kdq [0] ?_ (hc := num bs hB _ (by omega) [4, 3, 5, 4] (by decide) (by decide)) | refine kmq [0] ?_ (hc := num bs hB _ (by omega) [4, 3, 5, 4] (by decide) (by decide)) | refine ktq [0] ?_ (hc := num bs hB _ (by omega) [4, 3, 5, 4] (by decide) (by decide))); rintro _ _ ⟨z, rfl, hz, rfl⟩; (simp only [go_sem]))
    repeat' (first | (first | (simp only [go_sem, d1]) | (((first | apply sp1 | apply sp2 | apply sp3 | apply sp4 | apply sp5 | apply sp6 | apply sp7) <;> intro hb) <;> (simp only [go_sem, hb, d1])) | ((first | apply wm_done | apply wt_done | apply wg_run | refine fk ?_ ?_) <;> (simp only [go_sem, d1]))) | fail)
    ((first | refine kdq [0] ?_ (hc := make9 bs hB z hz x1 (by omega) _ (by omega)) | refine kmq [0] ?_ (hc := make9 bs hB z hz x1 (by omega) _ (by omega)) | refine ktq [0] ?_ (hc := make9 bs hB z hz x1 (by omega) _ (by omega))); rintro _ _ ⟨e, q2, rfl, he, hc, hs, hq2, rfl⟩; (simp only [go_sem]))
    have ht := sTypeOf e he hc (by omega)
    repeat' (first | (first | (simp only [go_sem, d1]) | (((first | apply sp1 | apply sp2 | apply sp3 | apply sp4 | apply sp5 | apply sp6 | apply sp7) <;> intro hb) <;> (simp only [go_sem, hb, d1])) | ((first | apply wm_done | apply wt_done | apply wg_run | refine fk ?_ ?_) <;> (simp only [go_sem, d1]))) | ((first | refine kdq [] ?_ (hc := ht) | refine kmq [] ?_ (hc := ht) | refine ktq [] ?_ (hc := ht)); rintro _ _ (⟨t, et, rfl, rfl⟩ | ⟨rfl, rfl⟩) <;> (simp only [go_sem])) | fail)
    · exact hR _ (rat [] (hK := ⟨e, q2, rfl, he, hc, hs, by omega, rfl⟩))
    · repeat' (first | (first | (simp only [go_sem, hw1]) | (((first | apply sp1 | apply sp2 | apply sp3 | apply sp4 | apply sp5 | apply sp6 | apply sp7) <;> intro hb) <;> (simp only [go_sem, hb, hw1])) | ((first | apply wm_done | apply wt_done | apply wg_run | refine fk ?_ ?_) <;> (simp only [go_sem, hw1]))) | fail)
      exact hG (i + 1, q2) _ _ ⟨by simp only []; omega, by simp only []; omega⟩ (by simp only []; omega) (hat [1] (hI := ⟨rfl, rfl⟩))
  · have d1 : decide ((i : Int) < 4) = false := by simp; omega
    clear hG
    (simp only [go_sem, d1])
    repeat' (first | (first | (simp only [go_sem, d1]) | (((first | apply sp1 | apply sp2 | apply sp3 | apply sp4 | apply sp5 | apply sp6 | apply sp7) <;> intro hb) <;> (simp only [go_sem, hb, d1])) | ((first | apply wm_done | apply wt_done | apply wg_run | refine fk ?_ ?_) <;> (simp only [go_sem, d1]))) | fail)
    ((first | refine kdq [0] ?_ (hc := l2Closed bs hB _ (by omega)) | refine kmq [0] ?_ (hc := l2Closed bs hB _ (by omega)) | refine ktq [0] ?_ (hc := l2Closed bs hB _ (by omega))); rintro _ _ ⟨e, q2, rfl, he, hc, hs, hq2, rfl⟩; (simp only [go_sem]))
    repeat' (first | (first | (((first | apply sp1 | apply sp2 | apply sp3 | apply sp4 | apply sp5 | apply sp6 | apply sp7) <;> intro hb) <;> (simp only [go_sem, hb])) | ((first | apply wm_done | apply wt_done | apply wg_run | refine fk ?_ ?_) <;> (simp only [go_sem]))) | fail)
    exact hR _ (rat [] (hK := ⟨e, q2, rfl, he, hc, by omega, by omega, rfl⟩))
end Go.Proofs.YtjmicohbnpbemaaGreat
/- Evaluation of terms with casts. No program, no world. -/
namespace Go.Proofs.Grad
/-- what StepCast makes of a valid term -/
inductive SC where
  | value (e : E) | took (e : E) | blame (l : Int) | stuck | large
def SC.tm : SC → Tm | .value e => e.tm | .took e => e.tm | _ => tm0
def SC.code : SC → Int | .value _ => 0 | .took _ => 1 | .blame _ => 2 | .stuck => 3 | .large => 4
def SC.lab : SC → Int | .blame l => l | _ => 0
def E.sc (e : E) : SC := match e.val with
  | true => .value e
  | false => match e.step with | .took x => (match x.okC with | true => .took x | false => .large) | .blame l => .blame l | .stuck => .stuck
theorem E.sc_took {e x : E} (h : e.sc = .took x) : e.val = false ∧ e.step = .took x ∧ x.okC = true := by
  unfold E.sc at h
  split at h
  · cases h
  · rename_i hv
    split at h
    · rename_i y hy
      split at h
      · rename_i ho; cases h; exact ⟨hv, hy, ho⟩
      · cases h
    · cases h
    · cases h
theorem E.sc_ok {e x : E} (h : e.sc = .took x) : x.okC = true := (E.sc_took h).2.2
theorem E.step_wf {e x : E} (hw : e.wf = true) (hn : e.noA = true) (h : e.step = .took x) : x.wf = true ∧ x.noA = true := by
  have := E.step_ok e hw hn
  rw [h] at this
  simpa [SR.ok] using this
/-- the result of an evaluation -/
def SC.fin : SC → SC × Bool | .took _ => (.stuck, true) | r => (r, false)
/-- EvalCast's: term, code, label -/
def SC.etm : SC → Tm | .took _ => tm0 | r => r.tm
def SC.ecode : SC → Int | .took _ => 5 | r => r.code
end Go.Proofs.Grad
/- Steps of terms with casts: how large what they make is. No program, no world. -/
namespace Go.Proofs.Grad
theorem E.subst_nodes {x : UInt8} {v : E} (e : E) : (e.subst x v).nodes ≤ e.nodes * (v.nodes + 1) := by
  have hp := v.nodes_pos
  have key : ∀ n : Nat, n ≤ n * (v.nodes + 1) := fun n => by rw [Nat.mul_add]; omega
  induction e with
  | var y => simp only [E.subst]; split <;> simp only [E.nodes] <;> omega
  | lam y t a ih =>
    simp only [E.subst]
    split
    · exact key _
    · simp only [E.nodes, Nat.add_mul, Nat.one_mul] at ih ⊢; omega
  | num _ | tru | fls => simp only [E.subst, E.nodes]; omega
  | _ => simp only [E.subst, E.nodes, Nat.add_mul, Nat.one_mul] at *; omega
def sq (n : Nat) : Nat := n * n + 4 * n
theorem sq_add (a b : Nat) : sq a + b ≤ sq (a + b) := by
  unfold sq
  have : (a + b) * (a + b) = a * a + a * b + (b * a + b * b) := by rw [Nat.add_mul, Nat.mul_add, Nat.mul_add]
  rw [this]; have := Nat.zero_le (a * b); have := Nat.zero_le (b * a); have := Nat.zero_le (b * b); omega
def SR.few (r : SR) (n : Nat) : Prop := match r with | .took e => e.nodes ≤ n | _ => True
theorem SR.map_few {r : SR} {f : E → E} {n m : Nat} (h : r.few n) (hf : ∀ e : E, e.nodes ≤ n → (f e).nodes ≤ m) : (r.map f).few m := by
  cases r with
  | took e => exact hf e h
  | _ => trivial
theorem ruleApp_few (a b : E) : (ruleApp a b).few (sq (E.app a b).nodes) := by
  cases a with
  | lam x t c =>
    simp only [ruleApp, SR.few, E.nodes]
    have h := c.subst_nodes (x := x) (v := b)
    have h2 : c.nodes * (b.nodes + 1) ≤ (1 + (1 + c.nodes + b.nodes)) * (1 + (1 + c.nodes + b.nodes)) := Nat.mul_le_mul (by omega) (by omega)
    unfold sq; omega
  | cast s t l f =>
    cases s <;> cases t <;> try trivial
    simp only [ruleApp, SR.few, E.nodes]
    unfold sq
    have := Nat.zero_le ((1 + (1 + f.nodes + b.nodes)) * (1 + (1 + f.nodes + b.nodes)))
    omega
  | _ => trivial
theorem ruleCast_few (s t : T) (l : Int) (a : E) : (ruleCast s t l a).few (sq (E.cast s t l a).nodes) := by
  have hp := a.nodes_pos
  have h0 : ∀ n : Nat, 1 ≤ n → n + 2 ≤ sq n := fun n h => by unfold sq; have := Nat.zero_le (n * n); omega
  have h1 := h0 (E.cast s t l a).nodes (E.nodes_pos _)
  unfold ruleCast
  split
  · simp only [SR.few, E.nodes] at *; omega
  · split
    · simp only [SR.few, E.nodes] at *; omega
    · split
      · simp only [SR.few, E.nodes] at *; omega
      · unfold ruleOut
        split
        · split
          · split
            · simp only [SR.few, E.nodes] at *; omega
            · trivial
          · trivial
        · trivial
theorem E.step_few (e : E) : e.step.few (sq e.nodes) := by
  have hs : ∀ n : Nat, n ≤ sq n := fun n => by unfold sq; have := Nat.zero_le (n * n); omega
  induction e with
  | app a b iha ihb =>
    simp only [E.step]
    split
    · refine SR.map_few iha fun e he => ?_
      simp only [E.nodes]; have := sq_add a.nodes (1 + b.nodes); rw [show 1 + (a.nodes + b.nodes) = a.nodes + (1 + b.nodes) by omega]; omega
    · split
      · refine SR.map_few ihb fun e he => ?_
        simp only [E.nodes]; have := sq_add b.nodes (1 + a.nodes); rw [show 1 + (a.nodes + b.nodes) = b.nodes + (1 + a.nodes) by omega]; omega
      · exact ruleApp_few a b
  | add a b iha ihb =>
    simp only [E.step]
    split
    · refine SR.map_few iha fun e he => ?_
      simp only [E.nodes]; have := sq_add a.nodes (1 + b.nodes); rw [show 1 + (a.nodes + b.nodes) = a.nodes + (1 + b.nodes) by omega]; omega
    · split
      · refine SR.map_few ihb fun e he => ?_
        simp only [E.nodes]; have := sq_add b.nodes (1 + a.nodes); rw [show 1 + (a.nodes + b.nodes) = b.nodes + (1 + a.nodes) by omega]; omega
      · have := hs (E.add a b).nodes; have hp := a.nodes_pos
        cases a <;> cases b <;> first | trivial | (simp only [ruleAdd, SR.few, E.nodes] at *; omega)
  | less a b iha ihb =>
    simp only [E.step]
    split
    · refine SR.map_few iha fun e he => ?_
      simp only [E.nodes]; have := sq_add a.nodes (1 + b.nodes); rw [show 1 + (a.nodes + b.nodes) = a.nodes + (1 + b.nodes) by omega]; omega
    · split
      · refine SR.map_few ihb fun e he => ?_
        simp only [E.nodes]; have := sq_add b.nodes (1 + a.nodes); rw [show 1 + (a.nodes + b.nodes) = b.nodes + (1 + a.nodes) by omega]; omega
      · have := hs (E.less a b).nodes
        cases a <;> cases b <;> first | trivial | (simp only [ruleLess]; split <;> simp only [SR.few, E.nodes] at * <;> omega)
  | pair a b iha ihb =>
    simp only [E.step]
    split
    · refine SR.map_few iha fun e he => ?_
      simp only [E.nodes]; have := sq_add a.nodes (1 + b.nodes); rw [show 1 + (a.nodes + b.nodes) = a.nodes + (1 + b.nodes) by omega]; omega
    · split
      · refine SR.map_few ihb fun e he => ?_
        simp only [E.nodes]; have := sq_add b.nodes (1 + a.nodes); rw [show 1 + (a.nodes + b.nodes) = b.nodes + (1 + a.nodes) by omega]; omega
      · trivial
  | ite a b c iha ihb ihc =>
    simp only [E.step]
    split
    · refine SR.map_few iha fun e he => ?_
      simp only [E.nodes]; have := sq_add a.nodes (1 + (b.nodes + c.nodes)); rw [show 1 + (a.nodes + (b.nodes + c.nodes)) = a.nodes + (1 + (b.nodes + c.nodes)) by omega]; omega
    · have := hs (E.ite a b c).nodes
      cases a <;> first | trivial | (simp only [ruleIte, SR.few, E.nodes] at *; omega)
  | fst a ih | snd a ih =>
    simp only [E.step]
    split
    · refine SR.map_few ih fun e he => ?_
      simp only [E.nodes]; have := sq_add a.nodes 1; rw [show 1 + a.nodes = a.nodes + 1 by omega]; omega
    · have h1 := hs (E.fst a).nodes
      have h3 : (E.fst a).nodes + 2 ≤ sq (E.fst a).nodes + 0 := by unfold sq; simp only [E.nodes]; have := Nat.zero_le ((1 + a.nodes) * (1 + a.nodes)); omega
      cases a with
      | cast s t l f => cases s <;> cases t <;> first | trivial | (simp only [ruleFst, ruleSnd, SR.few, E.nodes] at *; omega)
      | _ => first | trivial | (simp only [ruleFst, ruleSnd, SR.few, E.nodes] at *; omega)
  | cast s t l a ih =>
    simp only [E.step]
    split
    · refine SR.map_few ih fun e he => ?_
      simp only [E.nodes]; have := sq_add a.nodes 1; rw [show 1 + a.nodes = a.nodes + 1 by omega]; omega
    · exact ruleCast_few s t l a
  | _ => trivial
theorem E.step_nodes {e x : E} (h : e.step = .took x) (hn : e.nodes ≤ 200) : x.nodes ≤ 40800 := by
  have h1 := e.step_few
  rw [h] at h1
  have h2 : sq e.nodes ≤ sq 200 := by
    unfold sq; have := Nat.mul_le_mul hn hn; omega
  have : sq 200 = 40800 := rfl
  simp only [SR.few] at h1
  omega
end Go.Proofs.Grad
/- Steps of terms with casts: substitution and the rules, in the program. On shadows. -/
namespace Go.Proofs.Grad
theorem nm_beq (x y : UInt8) : ((nm x).toList == (nm y).toList) = (x == y) := by
  rw [Go.ByteArray.toList_eq, Go.ByteArray.toList_eq]; simp [nm]
end Go.Proofs.Grad
namespace Go.Proofs.YtjmicohbnpbemaaGreat
open Go.RowKit Go.Proofs.Sh Go.Proofs.Grad
set_option maxRecDepth 100000
set_option maxHeartbeats 8000000
theorem iSubst (x : UInt8) (v : E) (e : E) : AFn Tryz.prog 139 [.agg (teC e.tm), .one (.sc (.string (nm x))), .agg (teC v.tm)] (.agg (teC (e.subst x v).tm)) := by
  induction e with
  | var y =>
    have hn := nm_beq y x
    simp only [E.subst]
    cases e1 : (y == x)
    all_goals
      rw [e1] at hn
      simp only [E.tm]
      refine fn_in ?_; refine acl_in Tryz.func139 rfl isfn_139 (Nat.le_of_ble_eq_true rfl) (fun R hR => ?_); rw [Tryz.results139] at hR; refine wg_run ?_; (simp only [Tryz.f139, go_sem, hn])
      repeat' (first | (first | (simp only [go_sem, hn]) | (((first | apply sp1 | apply sp2 | apply sp3 | apply sp4 | apply sp5 | apply sp6 | apply sp7) <;> intro hb) <;> (simp only [go_sem, hb, hn])) | ((first | apply wm_done | apply wt_done | apply wg_run | refine fk ?_ ?_) <;> (simp only [go_sem, hn]))) | (first | (refine wl_next (wg_run ?_); (simp only [go_sem])) | refine wd_rounds 6 ?_) | ((first | refine mxq6 [] ?_ | refine mxq5 [] ?_ | refine mxq4 [] ?_ | refine mxq3 [] ?_ | refine mxq2 [] ?_ | refine mxq1 [] ?_ | refine mxq0 [] ?_ | fail); (simp only [go_sem, hn])) | fail)
      (refine hR _ ?_; refine rat [] (hK := ⟨rfl, rfl⟩))
  | lam y t a ih =>
    have hn := nm_beq y x
    simp only [E.subst]
    cases e1 : (y == x)
    all_goals
      rw [e1] at hn
      simp only [E.tm]
      refine fn_in ?_; refine acl_in Tryz.func139 rfl isfn_139 (Nat.le_of_ble_eq_true rfl) (fun R hR => ?_); rw [Tryz.results139] at hR; refine wg_run ?_; (simp only [Tryz.f139, go_sem, hn])
      repeat' (first | (first | (simp only [go_sem, hn]) | (((first | apply sp1 | apply sp2 | apply sp3 | apply sp4 | apply sp5 | apply sp6 | apply sp7) <;> intro hb) <;> (simp only [go_sem, hb, hn])) | ((first | apply wm_done | apply wt_done | apply wg_run | refine fk ?_ ?_) <;> (simp only [go_sem, hn]))) | (first | (refine wl_next (wg_run ?_); (simp only [go_sem])) | refine wd_rounds 6 ?_) | ((first | refine mxq6 [] ?_ | refine mxq5 [] ?_ | refine mxq4 [] ?_ | refine mxq3 [] ?_ | refine mxq2 [] ?_ | refine mxq1 [] ?_ | refine mxq0 [] ?_ | fail); (simp only [go_sem, hn])) | (first | refine cdq ?_ (hc := ih) | refine cmq ?_ (hc := ih) | refine ctq ?_ (hc := ih)); (simp only [go_sem]) | fail)
      (refine hR _ ?_; refine rat [] (hK := ⟨rfl, rfl⟩))
  | num _ | tru | fls =>
    simp only [E.subst, E.tm, nd]
    refine fn_in ?_; refine acl_in Tryz.func139 rfl isfn_139 (Nat.le_of_ble_eq_true rfl) (fun R hR => ?_); rw [Tryz.results139] at hR; refine wg_run ?_; (simp only [Tryz.f139, go_sem])
    repeat' (first | (first | (((first | apply sp1 | apply sp2 | apply sp3 | apply sp4 | apply sp5 | apply sp6 | apply sp7) <;> intro hb) <;> (simp only [go_sem, hb])) | ((first | apply wm_done | apply wt_done | apply wg_run | refine fk ?_ ?_) <;> (simp only [go_sem]))) | (first | (refine wl_next (wg_run ?_); (simp only [go_sem])) | refine wd_rounds 6 ?_) | ((first | refine mxq6 [] ?_ | refine mxq5 [] ?_ | refine mxq4 [] ?_ | refine mxq3 [] ?_ | refine mxq2 [] ?_ | refine mxq1 [] ?_ | refine mxq0 [] ?_ | fail); (simp only [go_sem])) | fail)
    (refine hR _ ?_; refine rat [] (hK := ⟨rfl, rfl⟩))
  | app a b iha ihb | add a b iha ihb | less a b iha ihb | pair a b iha ihb =>
    simp only [E.subst, E.tm, nd]
    refine fn_in ?_; refine acl_in Tryz.func139 rfl isfn_139 (Nat.le_of_ble_eq_true rfl) (fun R hR => ?_); rw [Tryz.results139] at hR; refine wg_run ?_; (simp only [Tryz.f139, go_sem])
    repeat' (first | (first | (((first | apply sp1 | apply sp2 | apply sp3 | apply sp4 | apply sp5 | apply sp6 | apply sp7) <;> intro hb) <;> (simp only [go_sem, hb])) | ((first | apply wm_done | apply wt_done | apply wg_run | refine fk ?_ ?_) <;> (simp only [go_sem]))) | (first | (refine wl_next (wg_run ?_); (simp only [go_sem])) | refine wd_rounds 6 ?_) | ((first | refine mxq6 [] ?_ | refine mxq5 [] ?_ | refine mxq4 [] ?_ | refine mxq3 [] ?_ | refine mxq2 [] ?_ | refine mxq1 [] ?_ | refine mxq0 [] ?_ | fail); (simp only [go_sem])) | (first | refine cdq ?_ (hc := iha) | refine cmq ?_ (hc := iha) | refine ctq ?_ (hc := iha)); (simp only [go_sem]) | (first | refine cdq ?_ (hc := ihb) | refine cmq ?_ (hc := ihb) | refine ctq ?_ (hc := ihb)); (simp only [go_sem]) | fail)
    (refine hR _ ?_; refine rat [] (hK := ⟨rfl, rfl⟩))
  | ite a b c iha ihb ihc =>
    simp only [E.subst, E.tm, nd]
    refine fn_in ?_; refine acl_in Tryz.func139 rfl isfn_139 (Nat.le_of_ble_eq_true rfl) (fun R hR => ?_); rw [Tryz.results139] at hR; refine wg_run ?_; (simp only [Tryz.f139, go_sem])
    repeat' (first | (first | (((first | apply sp1 | apply sp2 | apply sp3 | apply sp4 | apply sp5 | apply sp6 | apply sp7) <;> intro hb) <;> (simp only [go_sem, hb])) | ((first | apply wm_done | apply wt_done | apply wg_run | refine fk ?_ ?_) <;> (simp only [go_sem]))) | (first | (refine wl_next (wg_run ?_); (simp only [go_sem])) | refine wd_rounds 6 ?_) | ((first | refine mxq6 [] ?_ | refine mxq5 [] ?_ | refine mxq4 [] ?_ | refine mxq3 [] ?_ | refine mxq2 [] ?_ | refine mxq1 [] ?_ | refine mxq0 [] ?_ | fail); (simp only [go_sem])) | (first | refine cdq ?_ (hc := iha) | refine cmq ?_ (hc := iha) | refine ctq ?_ (hc := iha)); (simp only [go_sem]) | (first | refine cdq ?_ (hc := ihb) | refine cmq ?_ (hc := ihb) | refine ctq ?_ (hc := ihb)); (simp only [go_sem]) | (first | refine cdq ?_ (hc := ihc) | refine cmq ?_ (hc := ihc) | refine ctq ?_ (hc := ihc)); (simp only [go_sem]) | fail)
    (refine hR _ ?_; refine rat [] (hK := ⟨rfl, rfl⟩))
  | fst a ih | snd a ih | cast s t l a ih =>
    simp only [E.subst, E.tm, nd]
    refine fn_in ?_; refine acl_in Tryz.func139 rfl isfn_139 (Nat.le_of_ble_eq_true rfl) (fun R hR => ?_); rw [Tryz.results139] at hR; refine wg_run ?_; (simp only [Tryz.f139, go_sem])
    repeat' (first | (first | (((first | apply sp1 | apply sp2 | apply sp3 | apply sp4 | apply sp5 | apply sp6 | apply sp7) <;> intro hb) <;> (simp only [go_sem, hb])) | ((first | apply wm_done | apply wt_done | apply wg_run | refine fk ?_ ?_) <;> (simp only [go_sem]))) | (first | (refine wl_next (wg_run ?_); (simp only [go_sem])) | refine wd_rounds 6 ?_) | ((first | refine mxq6 [] ?_ | refine mxq5 [] ?_ | refine mxq4 [] ?_ | refine mxq3 [] ?_ | refine mxq2 [] ?_ | refine mxq1 [] ?_ | refine mxq0 [] ?_ | fail); (simp only [go_sem])) | (first | refine cdq ?_ (hc := ih) | refine cmq ?_ (hc := ih) | refine ctq ?_ (hc := ih)); (simp only [go_sem]) | fail)
    (refine hR _ ?_; refine rat [] (hK := ⟨rfl, rfl⟩))
  | _ =>
    rename_i t a ih
    simp only [E.subst, E.tm, nd]
    refine fn_in ?_; refine acl_in Tryz.func139 rfl isfn_139 (Nat.le_of_ble_eq_true rfl) (fun R hR => ?_); rw [Tryz.results139] at hR; refine wg_run ?_; (simp only [Tryz.f139, go_sem])
    repeat' (first | (first | (((first | apply sp1 | apply sp2 | apply sp3 | apply sp4 | apply sp5 | apply sp6 | apply sp7) <;> intro hb) <;> (simp only [go_sem, hb])) | ((first | apply wm_done | apply wt_done | apply wg_run | refine fk ?_ ?_) <;> (simp only [go_sem]))) | (first | (refine wl_next (wg_run ?_); (simp only [go_sem])) | refine wd_rounds 6 ?_) | ((first | refine mxq6 [] ?_ | refine mxq5 [] ?_ | refine mxq4 [] ?_ | refine mxq3 [] ?_ | refine mxq2 [] ?_ | refine mxq1 [] ?_ | refine mxq0 [] ?_ | fail); (simp only [go_sem])) | (first | refine cdq ?_ (hc := ih) | refine cmq ?_ (hc := ih) | refine ctq ?_ (hc := ih)); (simp only [go_sem]) | fail)
    (refine hR _ ?_; refine rat [] (hK := ⟨rfl, rfl⟩))
end Go.Proofs.YtjmicohbnpbemaaGreat
/- Steps of terms with casts: values and ground types, as forms. -/
namespace Go.Proofs.Grad
theorem ground_eq {s t : T} (hs : s.isG = true) (ht : t.isG = true) (hk : s.ty.kind = t.ty.kind) : s = t := by
  cases s with
  | fn x y | pr x y => cases x <;> cases y <;> simp [T.isG] at hs; cases t with
    | fn z w | pr z w => cases z <;> cases w <;> simp [T.isG] at ht <;> first | rfl | (simp [T.ty, Ty.kind] at hk)
    | _ => simp [T.ty, Ty.kind] at hk
  | _ => cases t <;> simp [T.ty, Ty.kind] at hk <;> first | rfl | (simp [T.isG] at hs)
theorem T.isG_ty (s : T) : s.ty.isGr = s.isG := by
  have key : s.ty = s.ground.ty ↔ s = s.ground := ⟨T.ty_inj _ _, fun h => congrArg T.ty h⟩
  unfold Ty.isGr
  rw [← T.ground_ty, Bool.eq_iff_iff, Bool.and_eq_true, Ty.same_iff, key]
  cases s with
  | fn a b | pr a b => cases a <;> cases b <;> simp [T.ground, T.isG, T.ty, Ty.kind]
  | _ => simp [T.ground, T.isG, T.ty, Ty.kind]
theorem proxyB_T (s t : T) : proxyB 14 t.ty s.ty = proxyT s t := by
  cases s <;> cases t <;> simp [proxyB, T.ty, Ty.kind, proxyT, T.isFn, T.isPr]
theorem injB_T (s t : T) : injB 14 t.ty s.ty = injT s t := by
  simp [injB, injT, T.isG_ty]
theorem E.val_tm (e : E) : e.tm.isVal = e.val := by
  induction e with
  | cast s t l a ih =>
    simp only [E.tm, Tm.isVal, Tm.isVals, Bool.and_true, E.val, ih, proxyB_T, injB_T]
    cases h : (proxyT s t || injT s t) <;> simp [plainB]
  | pair a b iha ihb => simp [E.tm, nd, Tm.isVal, Tm.isVals, E.val, iha, ihb]
  | _ => simp [E.tm, nd, Tm.isVal, proxyB, injB, plainB, E.val]
theorem T.same_G {s t : T} (hs : s.isG = true) (ht : t.isG = true) : s.ty.same t.ty = (s.ty.kind == t.ty.kind) := by
  rw [Bool.eq_iff_iff, Ty.same_iff]
  exact ⟨fun h => by rw [h]; simp, fun h => by rw [ground_eq hs ht (by simpa using h)]⟩
end Go.Proofs.Grad
/- Steps of terms with casts: the rules, in the program. On shadows. -/
namespace Go.Proofs.YtjmicohbnpbemaaGreat
open Go.RowKit Go.Proofs.Sh Go.Proofs.Grad
set_option maxRecDepth 100000
set_option maxHeartbeats 8000000
theorem iCasted (t : Tm) (f y : Ty) (l : Int) : AFn Tryz.prog 141 [.agg (teC t), .agg (tyC f), .agg (tyC y), .one (.sc (.int .i64 l))] (.agg (teC (.mk 14 ByteArray.empty 0 y f l [t]))) := by
  refine fn_in ?_; refine acl_in Tryz.func141 rfl isfn_141 (Nat.le_of_ble_eq_true rfl) (fun R hR => ?_); rw [Tryz.results141] at hR; refine wg_run ?_; (simp only [Tryz.f141, go_sem])
  repeat' (first | (first | (((first | apply sp1 | apply sp2 | apply sp3 | apply sp4 | apply sp5 | apply sp6 | apply sp7) <;> intro hb) <;> (simp only [go_sem, hb])) | ((first | apply wm_done | apply wt_done | apply wg_run | refine fk ?_ ?_) <;> (simp only [go_sem]))) | ((first | refine mxq6 [] ?_ | refine mxq5 [] ?_ | refine mxq4 [] ?_ | refine mxq3 [] ?_ | refine mxq2 [] ?_ | refine mxq1 [] ?_ | refine mxq0 [] ?_ | fail); (simp only [go_sem])) | fail)
  (refine hR _ ?_; refine rat [] (hK := ⟨rfl, rfl⟩))
theorem iNode (k : Int) (ks : List Tm) : AFn Tryz.prog 142 [.one (.sc (.int .i64 k)), .one (.sl (teR ks))] (.agg (teC (nd k ks))) := by
  refine fn_in ?_; refine acl_in Tryz.func142 rfl isfn_142 (Nat.le_of_ble_eq_true rfl) (fun R hR => ?_); rw [Tryz.results142] at hR; refine wg_run ?_; (simp only [Tryz.f142, go_sem])
  repeat' (first | (first | (((first | apply sp1 | apply sp2 | apply sp3 | apply sp4 | apply sp5 | apply sp6 | apply sp7) <;> intro hb) <;> (simp only [go_sem, hb])) | ((first | apply wm_done | apply wt_done | apply wg_run | refine fk ?_ ?_) <;> (simp only [go_sem]))) | ((first | refine mxq6 [] ?_ | refine mxq5 [] ?_ | refine mxq4 [] ?_ | refine mxq3 [] ?_ | refine mxq2 [] ?_ | refine mxq1 [] ?_ | refine mxq0 [] ?_ | fail); (simp only [go_sem])) | fail)
  (refine hR _ ?_; refine rat [] (hK := ⟨rfl, rfl⟩))
theorem iTruth (b : Bool) : AFn Tryz.prog 140 [.one (.sc (.bool b))] (.agg (teC (match b with | true => E.tru | false => E.fls).tm)) := by
  have h3 := iNode 3 []
  have h4 := iNode 4 []
  cases b
  all_goals
    simp only [E.tm]
    refine fn_in ?_; refine acl_in Tryz.func140 rfl isfn_140 (Nat.le_of_ble_eq_true rfl) (fun R hR => ?_); rw [Tryz.results140] at hR; refine wg_run ?_; (simp only [Tryz.f140, go_sem])
    repeat' (first | (first | (((first | apply sp1 | apply sp2 | apply sp3 | apply sp4 | apply sp5 | apply sp6 | apply sp7) <;> intro hb) <;> (simp only [go_sem, hb])) | ((first | apply wm_done | apply wt_done | apply wg_run | refine fk ?_ ?_) <;> (simp only [go_sem]))) | (first | refine cdq ?_ (hc := h3) | refine cmq ?_ (hc := h3) | refine ctq ?_ (hc := h3)); (simp only [go_sem]) | (first | refine cdq ?_ (hc := h4) | refine cmq ?_ (hc := h4) | refine ctq ?_ (hc := h4)); (simp only [go_sem]) | fail)
    (refine hR _ ?_; refine rat [] (hK := ⟨rfl, rfl⟩))
def ruT (o : Option E) : AV := match o with | some x => .tup [.agg (teC x.tm), .one (.sc (.int .i64 1))] | none => .tup [.agg (teC tm0), .one (.sc (.int .i64 3))]
theorem iRule (e : E) (h : e.wf = true) : AFn Tryz.prog 98 [.agg (teC e.tm)] (ruT e.ruleI) := by
  cases e with
  | app a b =>
    cases a with
    | lam x t c =>
      have hs := iSubst x b c
      simp only [E.ruleI, ruT]
      simp only [E.tm, nd]
      refine fn_in ?_; refine acl_in Tryz.func98 rfl isfn_98 (Nat.le_of_ble_eq_true rfl) (fun R hR => ?_); rw [Tryz.results98] at hR; refine wg_run ?_; (simp only [Tryz.f98, go_sem])
      repeat' (first | (first | (((first | apply sp1 | apply sp2 | apply sp3 | apply sp4 | apply sp5 | apply sp6 | apply sp7) <;> intro hb) <;> (simp only [go_sem, hb])) | ((first | apply wm_done | apply wt_done | apply wg_run | refine fk ?_ ?_) <;> (simp only [go_sem]))) | (first | refine cdq ?_ (hc := hs) | refine cmq ?_ (hc := hs) | refine ctq ?_ (hc := hs)); (simp only [go_sem]) | ((first | refine mxq6 [] ?_ | refine mxq5 [] ?_ | refine mxq4 [] ?_ | refine mxq3 [] ?_ | refine mxq2 [] ?_ | refine mxq1 [] ?_ | refine mxq0 [] ?_ | fail); (simp only [go_sem])) | fail)
      (refine hR _ ?_; refine rat [] (hK := ⟨rfl, rfl⟩))
    | _ =>
      simp only [E.ruleI, ruT]
      simp only [E.tm, nd]
      refine fn_in ?_; refine acl_in Tryz.func98 rfl isfn_98 (Nat.le_of_ble_eq_true rfl) (fun R hR => ?_); rw [Tryz.results98] at hR; refine wg_run ?_; (simp only [Tryz.f98, go_sem])
      repeat' (first | (first | (((first | apply sp1 | apply sp2 | apply sp3 | apply sp4 | apply sp5 | apply sp6 | apply sp7) <;> intro hb) <;> (simp only [go_sem, hb])) | ((first | apply wm_done | apply wt_done | apply wg_run | refine fk ?_ ?_) <;> (simp only [go_sem]))) | ((first | refine mxq6 [] ?_ | refine mxq5 [] ?_ | refine mxq4 [] ?_ | refine mxq3 [] ?_ | refine mxq2 [] ?_ | refine mxq1 [] ?_ | refine mxq0 [] ?_ | fail); (simp only [go_sem])) | fail)
      (refine hR _ ?_; refine rat [] (hK := ⟨rfl, rfl⟩))
  | add a b =>
    cases a with
    | num n =>
      cases b with
      | num m =>
        simp only [E.wf, Bool.and_eq_true, decide_eq_true_eq] at h
        have hw : IntKind.i64.wrap (n + m) = n + m := IntWalk.i64_in _ (by omega)
        simp only [E.ruleI, ruT]
        simp only [E.tm, nd]
        refine fn_in ?_; refine acl_in Tryz.func98 rfl isfn_98 (Nat.le_of_ble_eq_true rfl) (fun R hR => ?_); rw [Tryz.results98] at hR; refine wg_run ?_; (simp only [Tryz.f98, go_sem, hw])
        repeat' (first | (first | (simp only [go_sem, hw, int_bne]) | (((first | apply sp1 | apply sp2 | apply sp3 | apply sp4 | apply sp5 | apply sp6 | apply sp7) <;> intro hb) <;> (simp only [go_sem, hb, hw, int_bne])) | ((first | apply wm_done | apply wt_done | apply wg_run | refine fk ?_ ?_) <;> (simp only [go_sem, hw, int_bne]))) | ((first | refine mxq6 [] ?_ | refine mxq5 [] ?_ | refine mxq4 [] ?_ | refine mxq3 [] ?_ | refine mxq2 [] ?_ | refine mxq1 [] ?_ | refine mxq0 [] ?_ | fail); (simp only [go_sem, hw, int_bne])) | fail)
        (refine hR _ ?_; refine rat [] (hK := ⟨rfl, rfl⟩))
      | _ =>
        simp only [E.ruleI, ruT]
        simp only [E.tm, nd]
        refine fn_in ?_; refine acl_in Tryz.func98 rfl isfn_98 (Nat.le_of_ble_eq_true rfl) (fun R hR => ?_); rw [Tryz.results98] at hR; refine wg_run ?_; (simp only [Tryz.f98, go_sem])
        repeat' (first | (first | (simp only [go_sem, int_bne]) | (((first | apply sp1 | apply sp2 | apply sp3 | apply sp4 | apply sp5 | apply sp6 | apply sp7) <;> intro hb) <;> (simp only [go_sem, hb, int_bne])) | ((first | apply wm_done | apply wt_done | apply wg_run | refine fk ?_ ?_) <;> (simp only [go_sem, int_bne]))) | ((first | refine mxq6 [] ?_ | refine mxq5 [] ?_ | refine mxq4 [] ?_ | refine mxq3 [] ?_ | refine mxq2 [] ?_ | refine mxq1 [] ?_ | refine mxq0 [] ?_ | fail); (simp only [go_sem, int_bne])) | fail)
        (refine hR _ ?_; refine rat [] (hK := ⟨rfl, rfl⟩))
    | _ =>
      simp only [E.ruleI, ruT]
      simp only [E.tm, nd]
      refine fn_in ?_; refine acl_in Tryz.func98 rfl isfn_98 (Nat.le_of_ble_eq_true rfl) (fun R hR => ?_); rw [Tryz.results98] at hR; refine wg_run ?_; (simp only [Tryz.f98, go_sem])
      repeat' (first | (first | (simp only [go_sem, int_bne]) | (((first | apply sp1 | apply sp2 | apply sp3 | apply sp4 | apply sp5 | apply sp6 | apply sp7) <;> intro hb) <;> (simp only [go_sem, hb, int_bne])) | ((first | apply wm_done | apply wt_done | apply wg_run | refine fk ?_ ?_) <;> (simp only [go_sem, int_bne]))) | ((first | refine mxq6 [] ?_ | refine mxq5 [] ?_ | refine mxq4 [] ?_ | refine mxq3 [] ?_ | refine mxq2 [] ?_ | refine mxq1 [] ?_ | refine mxq0 [] ?_ | fail); (simp only [go_sem, int_bne])) | fail)
      (refine hR _ ?_; refine rat [] (hK := ⟨rfl, rfl⟩))
  | less a b =>
    cases a with
    | num n =>
      cases b with
      | num m =>
        have ht := iTruth (decide (n < m))
        simp only [E.ruleI, ruT]
        cases hd : decide (n < m)
        all_goals
          rw [hd] at ht
          simp only [E.tm, nd] at ht ⊢
          refine fn_in ?_; refine acl_in Tryz.func98 rfl isfn_98 (Nat.le_of_ble_eq_true rfl) (fun R hR => ?_); rw [Tryz.results98] at hR; refine wg_run ?_; (simp only [Tryz.f98, go_sem, hd])
          repeat' (first | (first | (simp only [go_sem, hd, int_bne]) | (((first | apply sp1 | apply sp2 | apply sp3 | apply sp4 | apply sp5 | apply sp6 | apply sp7) <;> intro hb) <;> (simp only [go_sem, hb, hd, int_bne])) | ((first | apply wm_done | apply wt_done | apply wg_run | refine fk ?_ ?_) <;> (simp only [go_sem, hd, int_bne]))) | ((first | refine mxq6 [] ?_ | refine mxq5 [] ?_ | refine mxq4 [] ?_ | refine mxq3 [] ?_ | refine mxq2 [] ?_ | refine mxq1 [] ?_ | refine mxq0 [] ?_ | fail); (simp only [go_sem, hd, int_bne])) | (first | refine cdq ?_ (hc := ht) | refine cmq ?_ (hc := ht) | refine ctq ?_ (hc := ht)); (simp only [go_sem]) | fail)
          (refine hR _ ?_; refine rat [] (hK := ⟨rfl, rfl⟩))
      | _ =>
        simp only [E.ruleI, ruT]
        simp only [E.tm, nd]
        refine fn_in ?_; refine acl_in Tryz.func98 rfl isfn_98 (Nat.le_of_ble_eq_true rfl) (fun R hR => ?_); rw [Tryz.results98] at hR; refine wg_run ?_; (simp only [Tryz.f98, go_sem])
        repeat' (first | (first | (simp only [go_sem, int_bne]) | (((first | apply sp1 | apply sp2 | apply sp3 | apply sp4 | apply sp5 | apply sp6 | apply sp7) <;> intro hb) <;> (simp only [go_sem, hb, int_bne])) | ((first | apply wm_done | apply wt_done | apply wg_run | refine fk ?_ ?_) <;> (simp only [go_sem, int_bne]))) | ((first | refine mxq6 [] ?_ | refine mxq5 [] ?_ | refine mxq4 [] ?_ | refine mxq3 [] ?_ | refine mxq2 [] ?_ | refine mxq1 [] ?_ | refine mxq0 [] ?_ | fail); (simp only [go_sem, int_bne])) | fail)
        (refine hR _ ?_; refine rat [] (hK := ⟨rfl, rfl⟩))
    | _ =>
      simp only [E.ruleI, ruT]
      simp only [E.tm, nd]
      refine fn_in ?_; refine acl_in Tryz.func98 rfl isfn_98 (Nat.le_of_ble_eq_true rfl) (fun R hR => ?_); rw [Tryz.results98] at hR; refine wg_run ?_; (simp only [Tryz.f98, go_sem])
      repeat' (first | (first | (simp only [go_sem, int_bne]) | (((first | apply sp1 | apply sp2 | apply sp3 | apply sp4 | apply sp5 | apply sp6 | apply sp7) <;> intro hb) <;> (simp only [go_sem, hb, int_bne])) | ((first | apply wm_done | apply wt_done | apply wg_run | refine fk ?_ ?_) <;> (simp only [go_sem, int_bne]))) | ((first | refine mxq6 [] ?_ | refine mxq5 [] ?_ | refine mxq4 [] ?_ | refine mxq3 [] ?_ | refine mxq2 [] ?_ | refine mxq1 [] ?_ | refine mxq0 [] ?_ | fail); (simp only [go_sem, int_bne])) | fail)
      (refine hR _ ?_; refine rat [] (hK := ⟨rfl, rfl⟩))
  | ite a b c =>
    cases a <;> simp only [E.ruleI, ruT] <;> simp only [E.tm, nd]
    all_goals
      refine fn_in ?_; refine acl_in Tryz.func98 rfl isfn_98 (Nat.le_of_ble_eq_true rfl) (fun R hR => ?_); rw [Tryz.results98] at hR; refine wg_run ?_; (simp only [Tryz.f98, go_sem])
      repeat' (first | (first | (simp only [go_sem, int_bne]) | (((first | apply sp1 | apply sp2 | apply sp3 | apply sp4 | apply sp5 | apply sp6 | apply sp7) <;> intro hb) <;> (simp only [go_sem, hb, int_bne])) | ((first | apply wm_done | apply wt_done | apply wg_run | refine fk ?_ ?_) <;> (simp only [go_sem, int_bne]))) | ((first | refine mxq6 [] ?_ | refine mxq5 [] ?_ | refine mxq4 [] ?_ | refine mxq3 [] ?_ | refine mxq2 [] ?_ | refine mxq1 [] ?_ | refine mxq0 [] ?_ | fail); (simp only [go_sem, int_bne])) | fail)
      (refine hR _ ?_; refine rat [] (hK := ⟨rfl, rfl⟩))
  | fst a =>
    cases a <;> simp only [E.ruleI, ruT] <;> simp only [E.tm, nd]
    all_goals
      refine fn_in ?_; refine acl_in Tryz.func98 rfl isfn_98 (Nat.le_of_ble_eq_true rfl) (fun R hR => ?_); rw [Tryz.results98] at hR; refine wg_run ?_; (simp only [Tryz.f98, go_sem])
      repeat' (first | (first | (simp only [go_sem, int_bne]) | (((first | apply sp1 | apply sp2 | apply sp3 | apply sp4 | apply sp5 | apply sp6 | apply sp7) <;> intro hb) <;> (simp only [go_sem, hb, int_bne])) | ((first | apply wm_done | apply wt_done | apply wg_run | refine fk ?_ ?_) <;> (simp only [go_sem, int_bne]))) | ((first | refine mxq6 [] ?_ | refine mxq5 [] ?_ | refine mxq4 [] ?_ | refine mxq3 [] ?_ | refine mxq2 [] ?_ | refine mxq1 [] ?_ | refine mxq0 [] ?_ | fail); (simp only [go_sem, int_bne])) | fail)
      (refine hR _ ?_; refine rat [] (hK := ⟨rfl, rfl⟩))
  | snd a =>
    cases a <;> simp only [E.ruleI, ruT] <;> simp only [E.tm, nd]
    all_goals
      refine fn_in ?_; refine acl_in Tryz.func98 rfl isfn_98 (Nat.le_of_ble_eq_true rfl) (fun R hR => ?_); rw [Tryz.results98] at hR; refine wg_run ?_; (simp only [Tryz.f98, go_sem])
      repeat' (first | (first | (simp only [go_sem, int_bne]) | (((first | apply sp1 | apply sp2 | apply sp3 | apply sp4 | apply sp5 | apply sp6 | apply sp7) <;> intro hb) <;> (simp only [go_sem, hb, int_bne])) | ((first | apply wm_done | apply wt_done | apply wg_run | refine fk ?_ ?_) <;> (simp only [go_sem, int_bne]))) | ((first | refine mxq6 [] ?_ | refine mxq5 [] ?_ | refine mxq4 [] ?_ | refine mxq3 [] ?_ | refine mxq2 [] ?_ | refine mxq1 [] ?_ | refine mxq0 [] ?_ | fail); (simp only [go_sem, int_bne])) | fail)
      (refine hR _ ?_; refine rat [] (hK := ⟨rfl, rfl⟩))
  | _ =>
    simp only [E.ruleI, ruT]
    simp only [E.tm, nd]
    refine fn_in ?_; refine acl_in Tryz.func98 rfl isfn_98 (Nat.le_of_ble_eq_true rfl) (fun R hR => ?_); rw [Tryz.results98] at hR; refine wg_run ?_; (simp only [Tryz.f98, go_sem])
    repeat' (first | (first | (simp only [go_sem, int_bne]) | (((first | apply sp1 | apply sp2 | apply sp3 | apply sp4 | apply sp5 | apply sp6 | apply sp7) <;> intro hb) <;> (simp only [go_sem, hb, int_bne])) | ((first | apply wm_done | apply wt_done | apply wg_run | refine fk ?_ ?_) <;> (simp only [go_sem, int_bne]))) | ((first | refine mxq6 [] ?_ | refine mxq5 [] ?_ | refine mxq4 [] ?_ | refine mxq3 [] ?_ | refine mxq2 [] ?_ | refine mxq1 [] ?_ | refine mxq0 [] ?_ | fail); (simp only [go_sem, int_bne])) | fail)
    (refine hR _ ?_; refine rat [] (hK := ⟨rfl, rfl⟩))
end Go.Proofs.YtjmicohbnpbemaaGreat
