/- Texts of the proof, one behind another. -/
import Derived.Test.YtkkijdlgmlffoaaKW8
import Derived.Test.YtkkijdlgmlffoaaKW9
set_option linter.unusedSimpArgs false
set_option linter.unusedVariables false
/- Refined types in the program (printed by gen_rf.py). On shadows. -/
namespace Go.Proofs.Ytkkijdlgmlffoaa
open Go.RowKit Go.Proofs.Sh Go.Proofs.Grad
set_option maxRecDepth 100000
set_option maxHeartbeats 8000000
@[go_sem] theorem tyR_prs (h : List Blk) (ks : List Nat) (m : List Ty) (x : List C) : prRs h ks (tyR m ++ [x]) = match prRs h ks [x] with | some (rows, i) => some (tyR m ++ rows, i) | none => none := by
  induction m with
  | nil => simp only [tyR, List.nil_append]; cases prRs h ks [x] <;> rfl
  | cons y m ih => rw [tyR, List.cons_append, prRs, ih, prL, if_pos (tyC_treeL y)]; cases prRs h ks [x] <;> rfl
def RowT (l : List Ty) (r : AV) (H' : List Blk) : Prop := (l = [] ∧ r = .one (.sl []) ∧ H' = []) ∨ (0 < l.length ∧ r = .one (.row 2 0 l.length) ∧ H' = [⟨2, 29, .mut, tyR l⟩])
theorem cloneTy (a b : Ty) : ACl Try.prog 76 [.one (.sl (tyR [a, b]))] [] (fun r H' => r = .one (.row 2 0 2) ∧ H' = [⟨2, 29, .mut, tyR [a, b]⟩]) := by
  refine acl_in Try.func76 rfl isfn_76 (Nat.le_of_ble_eq_true rfl) (fun R hR => ?_); rw [Try.results76] at hR; refine wg_run ?_; (simp only [Try.f76, go_sem])
  repeat' (first | (first | (((first | apply sp1 | apply sp2 | apply sp3 | apply sp4 | apply sp5 | apply sp6 | apply sp7) <;> intro hb) <;> (simp only [go_sem, hb])) | ((first | apply wm_done | apply wt_done | apply wg_run | refine fk ?_ ?_) <;> (simp only [go_sem]))) | ((first | refine mxq6 [] ?_ | refine mxq5 [] ?_ | refine mxq4 [] ?_ | refine mxq3 [] ?_ | refine mxq2 [] ?_ | refine mxq1 [] ?_ | refine mxq0 [] ?_ | fail); (simp only [go_sem])) | fail)
  exact hR _ (rwn [1] (hK := ⟨rfl, rfl⟩))
/-- the list so far: its slot and its block -/
def Out1 (m : List Ty) (c : C) (T : List Blk) : Prop := (m = [] ∧ c = .sc (.slice none 0 0) ∧ T = []) ∨ (0 < m.length ∧ c = .row 2 1 m.length ∧ T = [⟨2, 29, .mut, tyR m⟩])
theorem map_take1 {l : List Ty} {k : Nat} (h : k < l.length) (f : Ty → Ty) : (l.take (k + 1)).map f = (l.take k).map f ++ [f (kid l k)] := by
  rw [kid_eq h, List.take_succ_eq_append_getElem h, List.map_append]; rfl
theorem iRefined2O (c : Int) (hc : (c == 1) = false) (a b : Ty) (la lb : List Ty) (ha : AFn Try.prog 58 [.agg (tyC a)] (.one (.sl (tyR la)))) (hbb : AFn Try.prog 58 [.agg (tyC b)] (.one (.sl (tyR lb)))) (hl : la.length + lb.length < 1000000) :
    ACl Try.prog 58 [.agg (tyC (.mk c [a, b]))] [] (RowT (la.map (fun x => .mk c [x, b]) ++ lb.map (fun y => .mk c [a, y]))) := by
  have hcl := cloneTy a b
  refine acl_in Try.func58 rfl isfn_58 (Nat.le_of_ble_eq_true rfl) (fun R hR => ?_); rw [Try.results58] at hR; refine wg_run ?_; (simp only [Try.f58, go_sem, hc])
  repeat' (first | (first | (simp only [go_sem, hc]) | (((first | apply sp1 | apply sp2 | apply sp3 | apply sp4 | apply sp5 | apply sp6 | apply sp7) <;> intro hb) <;> (simp only [go_sem, hb, hc])) | ((first | apply wm_done | apply wt_done | apply wg_run | refine fk ?_ ?_) <;> (simp only [go_sem, hc]))) | (first | (refine wl_next (wg_run ?_); (simp only [go_sem])) | refine wd_rounds 6 ?_) | fail)
  (first | refine cdq ?_ (hc := ha) | refine cmq ?_ (hc := ha) | refine ctq ?_ (hc := ha)); (simp only [go_sem])
  have hlz_0 : la.length < 1000000 := by omega
  refine wd_for (σ := Nat × C × List Blk) [1, 3, 4, 18, 19, 20, 26, 27, 28] (fun x => [.one (.ptr 2 0 0 0), .one x.2.1, .one (.sc (.int .i64 0)), .one (.sl (tyR [a, b])), .one (.sc (.int .i64 2)), .one (.sc (.int .i64 0)), .one (.sl (tyR la)), .one (.sc (.int .i64 la.length)), .one (.sc (.int .i64 (x.1 : Nat)))])
    (fun x => ⟨2, 29, .mut, [tyC (.mk c [a, b])]⟩ :: x.2.2)
    (fun x => x.1 ≤ la.length ∧ Out1 (([] : List Ty) ++ (la.take x.1).map (fun x => Ty.mk c [x, b])) x.2.1 x.2.2) (fun x => la.length - x.1) (0, .sc (.slice none 0 0), []) ⟨Nat.zero_le _, .inl ⟨rfl, rfl, rfl⟩⟩ (hat [0] (hI := ⟨rfl, rfl⟩)) ?_
  rintro ⟨k, cc, T⟩ ⟨hk, hO⟩ G hGo
  simp only at hk hO hGo ⊢
  have hml : (([] : List Ty) ++ (la.take k).map (fun x => Ty.mk c [x, b])).length ≤ 2000000 := by simp only [List.length_append, List.length_map, List.length_take, List.length_nil]; omega
  obtain ⟨m, hmd⟩ : ∃ m, m = ([] : List Ty) ++ (la.take k).map (fun x => Ty.mk c [x, b]) := ⟨_, rfl⟩
  rw [← hmd] at hO hml
  rcases hO with ⟨hm, rfl, rfl⟩ | ⟨hm, rfl, rfl⟩
  · refine wg_run ?_
    (simp only [go_sem])
    ((first | apply sp1 | apply sp2 | apply sp3 | apply sp4 | apply sp5 | apply sp6 | apply sp7) <;> intro hb) <;> (simp only [go_sem, hb])
    · have hk1 : k < la.length := by have := of_decide_eq_true hb; omega
      have hw1 : IntKind.i64.wrap (((k : Nat) : Int) + 1) = ((k + 1 : Nat) : Int) := wrap_succ hk1 (by omega)
      have htk := map_take1 hk1 (fun x => Ty.mk c [x, b])
      repeat' (first | (first | (simp only [go_sem, hc, hb, hw1]) | (((first | apply sp1 | apply sp2 | apply sp3 | apply sp4 | apply sp5 | apply sp6 | apply sp7) <;> intro hb) <;> (simp only [go_sem, hb, hc, hb, hw1])) | ((first | apply wm_done | apply wt_done | apply wg_run | refine fk ?_ ?_) <;> (simp only [go_sem, hc, hb, hw1]))) | ((first | refine kdq [] ?_ (hc := hcl) | refine kmq [] ?_ (hc := hcl) | refine ktq [] ?_ (hc := hcl)); rintro _ _ ⟨rfl, rfl⟩ <;> (simp only [go_sem])) | (first | (refine tr (.op 0 false (.op 1 false (.op 2 false (.op 3 false (.fork 4 false (.op 5 false (.op 6 false (.op 7 true .nil))) (.op 6 false (.op 4 false (.op 5 false (.op 7 true .nil))))))))) [] follows ?_; (simp only [go_sem, hc, hb])) | fail) | fail)
      all_goals refine hGo (k + 1, _, _) _ _ ⟨by omega, ?_⟩ (by simp only; omega) (hat [0, 5] (hI := ⟨rfl, rfl⟩))
      all_goals refine .inr ⟨by simp only [htk, List.length_append, List.length_cons]; omega, ?_, ?_⟩
      all_goals first
        | (simp only [htk, ← List.append_assoc, ← hmd, List.length_append, List.length_cons, List.length_nil, hm]; done)
        | (simp only [htk, ← List.append_assoc, ← hmd, List.length_append, List.length_cons, List.length_nil, hm]; rfl)
        | (simp only [htk, ← List.append_assoc, ← hmd, tyR_append, hm]; rfl)
    · have hk1 : k = la.length := by have := of_decide_eq_false hb; omega
      subst hk1
      rw [List.take_length] at hmd
      clear hGo
      obtain ⟨m1, rfl⟩ : ∃ m1, m1 = m := ⟨_, rfl⟩
      have h1m : m1 = la.map (fun x => Ty.mk c [x, b]) := hmd
      have hm1 := hm
      have hml1 : m1.length ≤ 1000000 := by rw [h1m, List.length_map]; omega
      clear hmd hm hml
      repeat' (first | (first | (simp only [go_sem, hc]) | (((first | apply sp1 | apply sp2 | apply sp3 | apply sp4 | apply sp5 | apply sp6 | apply sp7) <;> intro hb) <;> (simp only [go_sem, hb, hc])) | ((first | apply wm_done | apply wt_done | apply wg_run | refine fk ?_ ?_) <;> (simp only [go_sem, hc]))) | (first | (refine wl_next (wg_run ?_); (simp only [go_sem])) | refine wd_rounds 6 ?_) | fail)
      (first | refine cdq ?_ (hc := hbb) | refine cmq ?_ (hc := hbb) | refine ctq ?_ (hc := hbb)); (simp only [go_sem])
      have hlz_1 : lb.length < 1000000 := by omega
      refine wd_for (σ := Nat × C × List Blk) [1, 3, 4, 18, 19, 20, 26, 27, 28] (fun x => [.one (.ptr 2 0 0 0), .one x.2.1, .one (.sc (.int .i64 1)), .one (.sl (tyR [a, b])), .one (.sc (.int .i64 2)), .one (.sc (.int .i64 1)), .one (.sl (tyR lb)), .one (.sc (.int .i64 lb.length)), .one (.sc (.int .i64 (x.1 : Nat)))])
        (fun x => ⟨2, 29, .mut, [tyC (.mk c [a, b])]⟩ :: x.2.2)
        (fun x => x.1 ≤ lb.length ∧ Out1 (m1 ++ (lb.take x.1).map (fun y => Ty.mk c [a, y])) x.2.1 x.2.2) (fun x => lb.length - x.1) (0, .sc (.slice none 0 0), []) ⟨Nat.zero_le _, .inl ⟨by simp [hm1], rfl, rfl⟩⟩ (hat [0] (hI := ⟨rfl, rfl⟩)) ?_
      rintro ⟨k, cc, T⟩ ⟨hk, hO⟩ G hGo
      simp only at hk hO hGo ⊢
      have hml : (m1 ++ (lb.take k).map (fun y => Ty.mk c [a, y])).length ≤ 2000000 := by simp only [List.length_append, List.length_map, List.length_take, List.length_nil]; omega
      obtain ⟨m, hmd⟩ : ∃ m, m = m1 ++ (lb.take k).map (fun y => Ty.mk c [a, y]) := ⟨_, rfl⟩
      rw [← hmd] at hO hml
      rcases hO with ⟨hm, rfl, rfl⟩ | ⟨hm, rfl, rfl⟩
      · refine wg_run ?_
        (simp only [go_sem])
        ((first | apply sp1 | apply sp2 | apply sp3 | apply sp4 | apply sp5 | apply sp6 | apply sp7) <;> intro hb) <;> (simp only [go_sem, hb])
        · have hk1 : k < lb.length := by have := of_decide_eq_true hb; omega
          have hw1 : IntKind.i64.wrap (((k : Nat) : Int) + 1) = ((k + 1 : Nat) : Int) := wrap_succ hk1 (by omega)
          have htk := map_take1 hk1 (fun y => Ty.mk c [a, y])
          repeat' (first | (first | (simp only [go_sem, hc, hb, hw1]) | (((first | apply sp1 | apply sp2 | apply sp3 | apply sp4 | apply sp5 | apply sp6 | apply sp7) <;> intro hb) <;> (simp only [go_sem, hb, hc, hb, hw1])) | ((first | apply wm_done | apply wt_done | apply wg_run | refine fk ?_ ?_) <;> (simp only [go_sem, hc, hb, hw1]))) | ((first | refine kdq [] ?_ (hc := hcl) | refine kmq [] ?_ (hc := hcl) | refine ktq [] ?_ (hc := hcl)); rintro _ _ ⟨rfl, rfl⟩ <;> (simp only [go_sem])) | (first | (refine tr (.op 0 false (.op 1 false (.op 2 false (.op 3 false (.fork 4 false (.op 5 false (.op 6 false (.op 7 true .nil))) (.op 6 false (.op 4 false (.op 5 false (.op 7 true .nil))))))))) [] follows ?_; (simp only [go_sem, hc, hb])) | fail) | fail)
          all_goals refine hGo (k + 1, _, _) _ _ ⟨by omega, ?_⟩ (by simp only; omega) (hat [0, 5] (hI := ⟨rfl, rfl⟩))
          all_goals refine .inr ⟨by simp only [htk, List.length_append, List.length_cons]; omega, ?_, ?_⟩
          all_goals first
            | (simp only [htk, ← List.append_assoc, ← hmd, List.length_append, List.length_cons, List.length_nil, hm]; done)
            | (simp only [htk, ← List.append_assoc, ← hmd, List.length_append, List.length_cons, List.length_nil, hm]; rfl)
            | (simp only [htk, ← List.append_assoc, ← hmd, tyR_append, hm]; rfl)
        · have hk1 : k = lb.length := by have := of_decide_eq_false hb; omega
          subst hk1
          rw [List.take_length] at hmd
          clear hGo
          repeat' (first | (first | (simp only [go_sem, hc]) | (((first | apply sp1 | apply sp2 | apply sp3 | apply sp4 | apply sp5 | apply sp6 | apply sp7) <;> intro hb) <;> (simp only [go_sem, hb, hc])) | ((first | apply wm_done | apply wt_done | apply wg_run | refine fk ?_ ?_) <;> (simp only [go_sem, hc]))) | (first | (refine wl_next (wg_run ?_); (simp only [go_sem])) | refine wd_rounds 6 ?_) | fail)
          exact hR _ (rat [] (hK := (.inl ⟨by rw [← h1m, ← hmd]; exact hm, rfl, rfl⟩)))
      · refine wg_run ?_
        (simp only [go_sem])
        ((first | apply sp1 | apply sp2 | apply sp3 | apply sp4 | apply sp5 | apply sp6 | apply sp7) <;> intro hb) <;> (simp only [go_sem, hb])
        · have hk1 : k < lb.length := by have := of_decide_eq_true hb; omega
          have hw1 : IntKind.i64.wrap (((k : Nat) : Int) + 1) = ((k + 1 : Nat) : Int) := wrap_succ hk1 (by omega)
          have htk := map_take1 hk1 (fun y => Ty.mk c [a, y])
          have hcap : (m.length + 1) * 32 ≤ 140737488355328 := by omega
          repeat' (first | (first | (simp only [go_sem, hc, hb, hw1, hcap]) | (((first | apply sp1 | apply sp2 | apply sp3 | apply sp4 | apply sp5 | apply sp6 | apply sp7) <;> intro hb) <;> (simp only [go_sem, hb, hc, hb, hw1, hcap])) | ((first | apply wm_done | apply wt_done | apply wg_run | refine fk ?_ ?_) <;> (simp only [go_sem, hc, hb, hw1, hcap]))) | ((first | refine kdq [] ?_ (hc := hcl) | refine kmq [] ?_ (hc := hcl) | refine ktq [] ?_ (hc := hcl)); rintro _ _ ⟨rfl, rfl⟩ <;> (simp only [go_sem])) | (first | (refine tr (.op 0 false (.op 1 false (.op 2 false (.op 3 false (.fork 4 false (.op 5 false (.op 6 false (.op 7 true .nil))) (.op 6 false (.op 4 false (.op 5 false (.op 7 true .nil))))))))) [] follows ?_; (simp only [go_sem, hc, hb])) | fail) | fail)
          all_goals refine hGo (k + 1, _, _) _ _ ⟨by omega, ?_⟩ (by simp only; omega) (hat [0, 6] (hI := ⟨rfl, rfl⟩))
          all_goals refine .inr ⟨by simp only [htk, List.length_append, List.length_cons]; omega, ?_, ?_⟩
          all_goals first
            | (simp only [htk, ← List.append_assoc, ← hmd, List.length_append, List.length_cons, List.length_nil]; done)
            | (simp only [htk, ← List.append_assoc, ← hmd, List.length_append, List.length_cons, List.length_nil]; rfl)
            | (simp only [htk, ← List.append_assoc, ← hmd, tyR_append]; rfl)
        · have hk1 : k = lb.length := by have := of_decide_eq_false hb; omega
          subst hk1
          rw [List.take_length] at hmd
          clear hGo
          repeat' (first | (first | (simp only [go_sem, hc]) | (((first | apply sp1 | apply sp2 | apply sp3 | apply sp4 | apply sp5 | apply sp6 | apply sp7) <;> intro hb) <;> (simp only [go_sem, hb, hc])) | ((first | apply wm_done | apply wt_done | apply wg_run | refine fk ?_ ?_) <;> (simp only [go_sem, hc]))) | (first | (refine wl_next (wg_run ?_); (simp only [go_sem])) | refine wd_rounds 6 ?_) | fail)
          exact hR _ (rwn [1] (hK := (.inr ⟨by rw [← h1m, ← hmd]; exact hm, by rw [← h1m, ← hmd], by rw [← h1m, ← hmd]⟩)))
  · refine wg_run ?_
    (simp only [go_sem])
    ((first | apply sp1 | apply sp2 | apply sp3 | apply sp4 | apply sp5 | apply sp6 | apply sp7) <;> intro hb) <;> (simp only [go_sem, hb])
    · have hk1 : k < la.length := by have := of_decide_eq_true hb; omega
      have hw1 : IntKind.i64.wrap (((k : Nat) : Int) + 1) = ((k + 1 : Nat) : Int) := wrap_succ hk1 (by omega)
      have htk := map_take1 hk1 (fun x => Ty.mk c [x, b])
      have hcap : (m.length + 1) * 32 ≤ 140737488355328 := by omega
      repeat' (first | (first | (simp only [go_sem, hc, hb, hw1, hcap]) | (((first | apply sp1 | apply sp2 | apply sp3 | apply sp4 | apply sp5 | apply sp6 | apply sp7) <;> intro hb) <;> (simp only [go_sem, hb, hc, hb, hw1, hcap])) | ((first | apply wm_done | apply wt_done | apply wg_run | refine fk ?_ ?_) <;> (simp only [go_sem, hc, hb, hw1, hcap]))) | ((first | refine kdq [] ?_ (hc := hcl) | refine kmq [] ?_ (hc := hcl) | refine ktq [] ?_ (hc := hcl)); rintro _ _ ⟨rfl, rfl⟩ <;> (simp only [go_sem])) | (first | (refine tr (.op 0 false (.op 1 false (.op 2 false (.op 3 false (.fork 4 false (.op 5 false (.op 6 false (.op 7 true .nil))) (.op 6 false (.op 4 false (.op 5 false (.op 7 true .nil))))))))) [] follows ?_; (simp only [go_sem, hc, hb])) | fail) | fail)
      all_goals refine hGo (k + 1, _, _) _ _ ⟨by omega, ?_⟩ (by simp only; omega) (hat [0, 6] (hI := ⟨rfl, rfl⟩))
      all_goals refine .inr ⟨by simp only [htk, List.length_append, List.length_cons]; omega, ?_, ?_⟩
      all_goals first
        | (simp only [htk, ← List.append_assoc, ← hmd, List.length_append, List.length_cons, List.length_nil]; done)
        | (simp only [htk, ← List.append_assoc, ← hmd, List.length_append, List.length_cons, List.length_nil]; rfl)
        | (simp only [htk, ← List.append_assoc, ← hmd, tyR_append]; rfl)
    · have hk1 : k = la.length := by have := of_decide_eq_false hb; omega
      subst hk1
      rw [List.take_length] at hmd
      clear hGo
      obtain ⟨m1, rfl⟩ : ∃ m1, m1 = m := ⟨_, rfl⟩
      have h1m : m1 = la.map (fun x => Ty.mk c [x, b]) := hmd
      have hm1 := hm
      have hml1 : m1.length ≤ 1000000 := by rw [h1m, List.length_map]; omega
      clear hmd hm hml
      repeat' (first | (first | (simp only [go_sem, hc]) | (((first | apply sp1 | apply sp2 | apply sp3 | apply sp4 | apply sp5 | apply sp6 | apply sp7) <;> intro hb) <;> (simp only [go_sem, hb, hc])) | ((first | apply wm_done | apply wt_done | apply wg_run | refine fk ?_ ?_) <;> (simp only [go_sem, hc]))) | (first | (refine wl_next (wg_run ?_); (simp only [go_sem])) | refine wd_rounds 6 ?_) | fail)
      (first | refine cdq ?_ (hc := hbb) | refine cmq ?_ (hc := hbb) | refine ctq ?_ (hc := hbb)); (simp only [go_sem])
      have hlz_1 : lb.length < 1000000 := by omega
      refine wd_for (σ := Nat × C × List Blk) [1, 3, 4, 18, 19, 20, 26, 27, 28] (fun x => [.one (.ptr 2 0 0 0), .one x.2.1, .one (.sc (.int .i64 1)), .one (.sl (tyR [a, b])), .one (.sc (.int .i64 2)), .one (.sc (.int .i64 1)), .one (.sl (tyR lb)), .one (.sc (.int .i64 lb.length)), .one (.sc (.int .i64 (x.1 : Nat)))])
        (fun x => ⟨2, 29, .mut, [tyC (.mk c [a, b])]⟩ :: x.2.2)
        (fun x => x.1 ≤ lb.length ∧ Out1 (m1 ++ (lb.take x.1).map (fun y => Ty.mk c [a, y])) x.2.1 x.2.2) (fun x => lb.length - x.1) (0, .row 2 1 m1.length, [⟨2, 29, .mut, tyR m1⟩]) ⟨Nat.zero_le _, .inr ⟨by simpa using hm1, by simp, by simp⟩⟩ (hat [0, 1] (hI := ⟨rfl, rfl⟩)) ?_
      rintro ⟨k, cc, T⟩ ⟨hk, hO⟩ G hGo
      simp only at hk hO hGo ⊢
      have hml : (m1 ++ (lb.take k).map (fun y => Ty.mk c [a, y])).length ≤ 2000000 := by simp only [List.length_append, List.length_map, List.length_take, List.length_nil]; omega
      obtain ⟨m, hmd⟩ : ∃ m, m = m1 ++ (lb.take k).map (fun y => Ty.mk c [a, y]) := ⟨_, rfl⟩
      rw [← hmd] at hO hml
      rcases hO with ⟨hm, rfl, rfl⟩ | ⟨hm, rfl, rfl⟩
      · refine wg_run ?_
        (simp only [go_sem])
        ((first | apply sp1 | apply sp2 | apply sp3 | apply sp4 | apply sp5 | apply sp6 | apply sp7) <;> intro hb) <;> (simp only [go_sem, hb])
        · have hk1 : k < lb.length := by have := of_decide_eq_true hb; omega
          have hw1 : IntKind.i64.wrap (((k : Nat) : Int) + 1) = ((k + 1 : Nat) : Int) := wrap_succ hk1 (by omega)
          have htk := map_take1 hk1 (fun y => Ty.mk c [a, y])
          repeat' (first | (first | (simp only [go_sem, hc, hb, hw1]) | (((first | apply sp1 | apply sp2 | apply sp3 | apply sp4 | apply sp5 | apply sp6 | apply sp7) <;> intro hb) <;> (simp only [go_sem, hb, hc, hb, hw1])) | ((first | apply wm_done | apply wt_done | apply wg_run | refine fk ?_ ?_) <;> (simp only [go_sem, hc, hb, hw1]))) | ((first | refine kdq [] ?_ (hc := hcl) | refine kmq [] ?_ (hc := hcl) | refine ktq [] ?_ (hc := hcl)); rintro _ _ ⟨rfl, rfl⟩ <;> (simp only [go_sem])) | (first | (refine tr (.op 0 false (.op 1 false (.op 2 false (.op 3 false (.fork 4 false (.op 5 false (.op 6 false (.op 7 true .nil))) (.op 6 false (.op 4 false (.op 5 false (.op 7 true .nil))))))))) [] follows ?_; (simp only [go_sem, hc, hb])) | fail) | fail)
          all_goals refine hGo (k + 1, _, _) _ _ ⟨by omega, ?_⟩ (by simp only; omega) (hat [0, 5] (hI := ⟨rfl, rfl⟩))
          all_goals refine .inr ⟨by simp only [htk, List.length_append, List.length_cons]; omega, ?_, ?_⟩
          all_goals first
            | (simp only [htk, ← List.append_assoc, ← hmd, List.length_append, List.length_cons, List.length_nil, hm]; done)
            | (simp only [htk, ← List.append_assoc, ← hmd, List.length_append, List.length_cons, List.length_nil, hm]; rfl)
            | (simp only [htk, ← List.append_assoc, ← hmd, tyR_append, hm]; rfl)
        · have hk1 : k = lb.length := by have := of_decide_eq_false hb; omega
          subst hk1
          rw [List.take_length] at hmd
          clear hGo
          repeat' (first | (first | (simp only [go_sem, hc]) | (((first | apply sp1 | apply sp2 | apply sp3 | apply sp4 | apply sp5 | apply sp6 | apply sp7) <;> intro hb) <;> (simp only [go_sem, hb, hc])) | ((first | apply wm_done | apply wt_done | apply wg_run | refine fk ?_ ?_) <;> (simp only [go_sem, hc]))) | (first | (refine wl_next (wg_run ?_); (simp only [go_sem])) | refine wd_rounds 6 ?_) | fail)
          exact hR _ (rat [] (hK := (.inl ⟨by rw [← h1m, ← hmd]; exact hm, rfl, rfl⟩)))
      · refine wg_run ?_
        (simp only [go_sem])
        ((first | apply sp1 | apply sp2 | apply sp3 | apply sp4 | apply sp5 | apply sp6 | apply sp7) <;> intro hb) <;> (simp only [go_sem, hb])
        · have hk1 : k < lb.length := by have := of_decide_eq_true hb; omega
          have hw1 : IntKind.i64.wrap (((k : Nat) : Int) + 1) = ((k + 1 : Nat) : Int) := wrap_succ hk1 (by omega)
          have htk := map_take1 hk1 (fun y => Ty.mk c [a, y])
          have hcap : (m.length + 1) * 32 ≤ 140737488355328 := by omega
          repeat' (first | (first | (simp only [go_sem, hc, hb, hw1, hcap]) | (((first | apply sp1 | apply sp2 | apply sp3 | apply sp4 | apply sp5 | apply sp6 | apply sp7) <;> intro hb) <;> (simp only [go_sem, hb, hc, hb, hw1, hcap])) | ((first | apply wm_done | apply wt_done | apply wg_run | refine fk ?_ ?_) <;> (simp only [go_sem, hc, hb, hw1, hcap]))) | ((first | refine kdq [] ?_ (hc := hcl) | refine kmq [] ?_ (hc := hcl) | refine ktq [] ?_ (hc := hcl)); rintro _ _ ⟨rfl, rfl⟩ <;> (simp only [go_sem])) | (first | (refine tr (.op 0 false (.op 1 false (.op 2 false (.op 3 false (.fork 4 false (.op 5 false (.op 6 false (.op 7 true .nil))) (.op 6 false (.op 4 false (.op 5 false (.op 7 true .nil))))))))) [] follows ?_; (simp only [go_sem, hc, hb])) | fail) | fail)
          all_goals refine hGo (k + 1, _, _) _ _ ⟨by omega, ?_⟩ (by simp only; omega) (hat [0, 6] (hI := ⟨rfl, rfl⟩))
          all_goals refine .inr ⟨by simp only [htk, List.length_append, List.length_cons]; omega, ?_, ?_⟩
          all_goals first
            | (simp only [htk, ← List.append_assoc, ← hmd, List.length_append, List.length_cons, List.length_nil]; done)
            | (simp only [htk, ← List.append_assoc, ← hmd, List.length_append, List.length_cons, List.length_nil]; rfl)
            | (simp only [htk, ← List.append_assoc, ← hmd, tyR_append]; rfl)
        · have hk1 : k = lb.length := by have := of_decide_eq_false hb; omega
          subst hk1
          rw [List.take_length] at hmd
          clear hGo
          repeat' (first | (first | (simp only [go_sem, hc]) | (((first | apply sp1 | apply sp2 | apply sp3 | apply sp4 | apply sp5 | apply sp6 | apply sp7) <;> intro hb) <;> (simp only [go_sem, hb, hc])) | ((first | apply wm_done | apply wt_done | apply wg_run | refine fk ?_ ?_) <;> (simp only [go_sem, hc]))) | (first | (refine wl_next (wg_run ?_); (simp only [go_sem])) | refine wd_rounds 6 ?_) | fail)
          exact hR _ (rwn [1] (hK := (.inr ⟨by rw [← h1m, ← hmd]; exact hm, by rw [← h1m, ← hmd], by rw [← h1m, ← hmd]⟩)))
theorem iRefined2 (c : Int) (hc : (c == 1) = false) (a b : Ty) (la lb : List Ty) (ha : AFn Try.prog 58 [.agg (tyC a)] (.one (.sl (tyR la)))) (hbb : AFn Try.prog 58 [.agg (tyC b)] (.one (.sl (tyR lb)))) (hl : la.length + lb.length < 1000000) :
    AFn Try.prog 58 [.agg (tyC (.mk c [a, b]))] (.one (.sl (tyR (la.map (fun x => .mk c [x, b]) ++ lb.map (fun y => .mk c [a, y]))))) := by
  have hcl := cloneTy a b
  refine fn_in ?_; refine acl_in Try.func58 rfl isfn_58 (Nat.le_of_ble_eq_true rfl) (fun R hR => ?_); rw [Try.results58] at hR; refine wg_run ?_; (simp only [Try.f58, go_sem, hc])
  repeat' (first | (first | (simp only [go_sem, hc]) | (((first | apply sp1 | apply sp2 | apply sp3 | apply sp4 | apply sp5 | apply sp6 | apply sp7) <;> intro hb) <;> (simp only [go_sem, hb, hc])) | ((first | apply wm_done | apply wt_done | apply wg_run | refine fk ?_ ?_) <;> (simp only [go_sem, hc]))) | (first | (refine wl_next (wg_run ?_); (simp only [go_sem])) | refine wd_rounds 6 ?_) | fail)
  (first | refine cdq ?_ (hc := ha) | refine cmq ?_ (hc := ha) | refine ctq ?_ (hc := ha)); (simp only [go_sem])
  have hlz_0 : la.length < 1000000 := by omega
  refine wd_for (σ := Nat × C × List Blk) [1, 3, 4, 18, 19, 20, 26, 27, 28] (fun x => [.one (.ptr 2 0 0 0), .one x.2.1, .one (.sc (.int .i64 0)), .one (.sl (tyR [a, b])), .one (.sc (.int .i64 2)), .one (.sc (.int .i64 0)), .one (.sl (tyR la)), .one (.sc (.int .i64 la.length)), .one (.sc (.int .i64 (x.1 : Nat)))])
    (fun x => ⟨2, 29, .mut, [tyC (.mk c [a, b])]⟩ :: x.2.2)
    (fun x => x.1 ≤ la.length ∧ Out1 (([] : List Ty) ++ (la.take x.1).map (fun x => Ty.mk c [x, b])) x.2.1 x.2.2) (fun x => la.length - x.1) (0, .sc (.slice none 0 0), []) ⟨Nat.zero_le _, .inl ⟨rfl, rfl, rfl⟩⟩ (hat [0] (hI := ⟨rfl, rfl⟩)) ?_
  rintro ⟨k, cc, T⟩ ⟨hk, hO⟩ G hGo
  simp only at hk hO hGo ⊢
  have hml : (([] : List Ty) ++ (la.take k).map (fun x => Ty.mk c [x, b])).length ≤ 2000000 := by simp only [List.length_append, List.length_map, List.length_take, List.length_nil]; omega
  obtain ⟨m, hmd⟩ : ∃ m, m = ([] : List Ty) ++ (la.take k).map (fun x => Ty.mk c [x, b]) := ⟨_, rfl⟩
  rw [← hmd] at hO hml
  rcases hO with ⟨hm, rfl, rfl⟩ | ⟨hm, rfl, rfl⟩
  · refine wg_run ?_
    (simp only [go_sem])
    ((first | apply sp1 | apply sp2 | apply sp3 | apply sp4 | apply sp5 | apply sp6 | apply sp7) <;> intro hb) <;> (simp only [go_sem, hb])
    · have hk1 : k < la.length := by have := of_decide_eq_true hb; omega
      have hw1 : IntKind.i64.wrap (((k : Nat) : Int) + 1) = ((k + 1 : Nat) : Int) := wrap_succ hk1 (by omega)
      have htk := map_take1 hk1 (fun x => Ty.mk c [x, b])
      repeat' (first | (first | (simp only [go_sem, hc, hb, hw1]) | (((first | apply sp1 | apply sp2 | apply sp3 | apply sp4 | apply sp5 | apply sp6 | apply sp7) <;> intro hb) <;> (simp only [go_sem, hb, hc, hb, hw1])) | ((first | apply wm_done | apply wt_done | apply wg_run | refine fk ?_ ?_) <;> (simp only [go_sem, hc, hb, hw1]))) | ((first | refine kdq [] ?_ (hc := hcl) | refine kmq [] ?_ (hc := hcl) | refine ktq [] ?_ (hc := hcl)); rintro _ _ ⟨rfl, rfl⟩ <;> (simp only [go_sem])) | (first | (refine tr (.op 0 false (.op 1 false (.op 2 false (.op 3 false (.fork 4 false (.op 5 false (.op 6 false (.op 7 true .nil))) (.op 6 false (.op 4 false (.op 5 false (.op 7 true .nil))))))))) [] follows ?_; (simp only [go_sem, hc, hb])) | fail) | fail)
      all_goals refine hGo (k + 1, _, _) _ _ ⟨by omega, ?_⟩ (by simp only; omega) (hat [0, 5] (hI := ⟨rfl, rfl⟩))
      all_goals refine .inr ⟨by simp only [htk, List.length_append, List.length_cons]; omega, ?_, ?_⟩
      all_goals first
        | (simp only [htk, ← List.append_assoc, ← hmd, List.length_append, List.length_cons, List.length_nil, hm]; done)
        | (simp only [htk, ← List.append_assoc, ← hmd, List.length_append, List.length_cons, List.length_nil, hm]; rfl)
        | (simp only [htk, ← List.append_assoc, ← hmd, tyR_append, hm]; rfl)
    · have hk1 : k = la.length := by have := of_decide_eq_false hb; omega
      subst hk1
      rw [List.take_length] at hmd
      clear hGo
      obtain ⟨m1, rfl⟩ : ∃ m1, m1 = m := ⟨_, rfl⟩
      have h1m : m1 = la.map (fun x => Ty.mk c [x, b]) := hmd
      have hm1 := hm
      have hml1 : m1.length ≤ 1000000 := by rw [h1m, List.length_map]; omega
      clear hmd hm hml
      repeat' (first | (first | (simp only [go_sem, hc]) | (((first | apply sp1 | apply sp2 | apply sp3 | apply sp4 | apply sp5 | apply sp6 | apply sp7) <;> intro hb) <;> (simp only [go_sem, hb, hc])) | ((first | apply wm_done | apply wt_done | apply wg_run | refine fk ?_ ?_) <;> (simp only [go_sem, hc]))) | (first | (refine wl_next (wg_run ?_); (simp only [go_sem])) | refine wd_rounds 6 ?_) | fail)
      (first | refine cdq ?_ (hc := hbb) | refine cmq ?_ (hc := hbb) | refine ctq ?_ (hc := hbb)); (simp only [go_sem])
      have hlz_1 : lb.length < 1000000 := by omega
      refine wd_for (σ := Nat × C × List Blk) [1, 3, 4, 18, 19, 20, 26, 27, 28] (fun x => [.one (.ptr 2 0 0 0), .one x.2.1, .one (.sc (.int .i64 1)), .one (.sl (tyR [a, b])), .one (.sc (.int .i64 2)), .one (.sc (.int .i64 1)), .one (.sl (tyR lb)), .one (.sc (.int .i64 lb.length)), .one (.sc (.int .i64 (x.1 : Nat)))])
        (fun x => ⟨2, 29, .mut, [tyC (.mk c [a, b])]⟩ :: x.2.2)
        (fun x => x.1 ≤ lb.length ∧ Out1 (m1 ++ (lb.take x.1).map (fun y => Ty.mk c [a, y])) x.2.1 x.2.2) (fun x => lb.length - x.1) (0, .sc (.slice none 0 0), []) ⟨Nat.zero_le _, .inl ⟨by simp [hm1], rfl, rfl⟩⟩ (hat [0] (hI := ⟨rfl, rfl⟩)) ?_
      rintro ⟨k, cc, T⟩ ⟨hk, hO⟩ G hGo
      simp only at hk hO hGo ⊢
      have hml : (m1 ++ (lb.take k).map (fun y => Ty.mk c [a, y])).length ≤ 2000000 := by simp only [List.length_append, List.length_map, List.length_take, List.length_nil]; omega
      obtain ⟨m, hmd⟩ : ∃ m, m = m1 ++ (lb.take k).map (fun y => Ty.mk c [a, y]) := ⟨_, rfl⟩
      rw [← hmd] at hO hml
      rcases hO with ⟨hm, rfl, rfl⟩ | ⟨hm, rfl, rfl⟩
      · refine wg_run ?_
        (simp only [go_sem])
        ((first | apply sp1 | apply sp2 | apply sp3 | apply sp4 | apply sp5 | apply sp6 | apply sp7) <;> intro hb) <;> (simp only [go_sem, hb])
        · have hk1 : k < lb.length := by have := of_decide_eq_true hb; omega
          have hw1 : IntKind.i64.wrap (((k : Nat) : Int) + 1) = ((k + 1 : Nat) : Int) := wrap_succ hk1 (by omega)
          have htk := map_take1 hk1 (fun y => Ty.mk c [a, y])
          repeat' (first | (first | (simp only [go_sem, hc, hb, hw1]) | (((first | apply sp1 | apply sp2 | apply sp3 | apply sp4 | apply sp5 | apply sp6 | apply sp7) <;> intro hb) <;> (simp only [go_sem, hb, hc, hb, hw1])) | ((first | apply wm_done | apply wt_done | apply wg_run | refine fk ?_ ?_) <;> (simp only [go_sem, hc, hb, hw1]))) | ((first | refine kdq [] ?_ (hc := hcl) | refine kmq [] ?_ (hc := hcl) | refine ktq [] ?_ (hc := hcl)); rintro _ _ ⟨rfl, rfl⟩ <;> (simp only [go_sem])) | (first | (refine tr (.op 0 false (.op 1 false (.op 2 false (.op 3 false (.fork 4 false (.op 5 false (.op 6 false (.op 7 true .nil))) (.op 6 false (.op 4 false (.op 5 false (.op 7 true .nil))))))))) [] follows ?_; (simp only [go_sem, hc, hb])) | fail) | fail)
          all_goals refine hGo (k + 1, _, _) _ _ ⟨by omega, ?_⟩ (by simp only; omega) (hat [0, 5] (hI := ⟨rfl, rfl⟩))
          all_goals refine .inr ⟨by simp only [htk, List.length_append, List.length_cons]; omega, ?_, ?_⟩
          all_goals first
            | (simp only [htk, ← List.append_assoc, ← hmd, List.length_append, List.length_cons, List.length_nil, hm]; done)
            | (simp only [htk, ← List.append_assoc, ← hmd, List.length_append, List.length_cons, List.length_nil, hm]; rfl)
            | (simp only [htk, ← List.append_assoc, ← hmd, tyR_append, hm]; rfl)
        · have hk1 : k = lb.length := by have := of_decide_eq_false hb; omega
          subst hk1
          rw [List.take_length] at hmd
          clear hGo
          repeat' (first | (first | (simp only [go_sem, hc]) | (((first | apply sp1 | apply sp2 | apply sp3 | apply sp4 | apply sp5 | apply sp6 | apply sp7) <;> intro hb) <;> (simp only [go_sem, hb, hc])) | ((first | apply wm_done | apply wt_done | apply wg_run | refine fk ?_ ?_) <;> (simp only [go_sem, hc]))) | (first | (refine wl_next (wg_run ?_); (simp only [go_sem])) | refine wd_rounds 6 ?_) | fail)
          exact hR _ (rat [] (hK := ⟨by rw [← h1m, ← hmd, hm]; rfl, rfl⟩))
      · refine wg_run ?_
        (simp only [go_sem])
        ((first | apply sp1 | apply sp2 | apply sp3 | apply sp4 | apply sp5 | apply sp6 | apply sp7) <;> intro hb) <;> (simp only [go_sem, hb])
        · have hk1 : k < lb.length := by have := of_decide_eq_true hb; omega
          have hw1 : IntKind.i64.wrap (((k : Nat) : Int) + 1) = ((k + 1 : Nat) : Int) := wrap_succ hk1 (by omega)
          have htk := map_take1 hk1 (fun y => Ty.mk c [a, y])
          have hcap : (m.length + 1) * 32 ≤ 140737488355328 := by omega
          repeat' (first | (first | (simp only [go_sem, hc, hb, hw1, hcap]) | (((first | apply sp1 | apply sp2 | apply sp3 | apply sp4 | apply sp5 | apply sp6 | apply sp7) <;> intro hb) <;> (simp only [go_sem, hb, hc, hb, hw1, hcap])) | ((first | apply wm_done | apply wt_done | apply wg_run | refine fk ?_ ?_) <;> (simp only [go_sem, hc, hb, hw1, hcap]))) | ((first | refine kdq [] ?_ (hc := hcl) | refine kmq [] ?_ (hc := hcl) | refine ktq [] ?_ (hc := hcl)); rintro _ _ ⟨rfl, rfl⟩ <;> (simp only [go_sem])) | (first | (refine tr (.op 0 false (.op 1 false (.op 2 false (.op 3 false (.fork 4 false (.op 5 false (.op 6 false (.op 7 true .nil))) (.op 6 false (.op 4 false (.op 5 false (.op 7 true .nil))))))))) [] follows ?_; (simp only [go_sem, hc, hb])) | fail) | fail)
          all_goals refine hGo (k + 1, _, _) _ _ ⟨by omega, ?_⟩ (by simp only; omega) (hat [0, 6] (hI := ⟨rfl, rfl⟩))
          all_goals refine .inr ⟨by simp only [htk, List.length_append, List.length_cons]; omega, ?_, ?_⟩
          all_goals first
            | (simp only [htk, ← List.append_assoc, ← hmd, List.length_append, List.length_cons, List.length_nil]; done)
            | (simp only [htk, ← List.append_assoc, ← hmd, List.length_append, List.length_cons, List.length_nil]; rfl)
            | (simp only [htk, ← List.append_assoc, ← hmd, tyR_append]; rfl)
        · have hk1 : k = lb.length := by have := of_decide_eq_false hb; omega
          subst hk1
          rw [List.take_length] at hmd
          clear hGo
          repeat' (first | (first | (simp only [go_sem, hc]) | (((first | apply sp1 | apply sp2 | apply sp3 | apply sp4 | apply sp5 | apply sp6 | apply sp7) <;> intro hb) <;> (simp only [go_sem, hb, hc])) | ((first | apply wm_done | apply wt_done | apply wg_run | refine fk ?_ ?_) <;> (simp only [go_sem, hc]))) | (first | (refine wl_next (wg_run ?_); (simp only [go_sem])) | refine wd_rounds 6 ?_) | fail)
          exact hR _ (rat [] (hK := ⟨by rw [← h1m, ← hmd], rfl⟩))
  · refine wg_run ?_
    (simp only [go_sem])
    ((first | apply sp1 | apply sp2 | apply sp3 | apply sp4 | apply sp5 | apply sp6 | apply sp7) <;> intro hb) <;> (simp only [go_sem, hb])
    · have hk1 : k < la.length := by have := of_decide_eq_true hb; omega
      have hw1 : IntKind.i64.wrap (((k : Nat) : Int) + 1) = ((k + 1 : Nat) : Int) := wrap_succ hk1 (by omega)
      have htk := map_take1 hk1 (fun x => Ty.mk c [x, b])
      have hcap : (m.length + 1) * 32 ≤ 140737488355328 := by omega
      repeat' (first | (first | (simp only [go_sem, hc, hb, hw1, hcap]) | (((first | apply sp1 | apply sp2 | apply sp3 | apply sp4 | apply sp5 | apply sp6 | apply sp7) <;> intro hb) <;> (simp only [go_sem, hb, hc, hb, hw1, hcap])) | ((first | apply wm_done | apply wt_done | apply wg_run | refine fk ?_ ?_) <;> (simp only [go_sem, hc, hb, hw1, hcap]))) | ((first | refine kdq [] ?_ (hc := hcl) | refine kmq [] ?_ (hc := hcl) | refine ktq [] ?_ (hc := hcl)); rintro _ _ ⟨rfl, rfl⟩ <;> (simp only [go_sem])) | (first | (refine tr (.op 0 false (.op 1 false (.op 2 false (.op 3 false (.fork 4 false (.op 5 false (.op 6 false (.op 7 true .nil))) (.op 6 false (.op 4 false (.op 5 false (.op 7 true .nil))))))))) [] follows ?_; (simp only [go_sem, hc, hb])) | fail) | fail)
      all_goals refine hGo (k + 1, _, _) _ _ ⟨by omega, ?_⟩ (by simp only; omega) (hat [0, 6] (hI := ⟨rfl, rfl⟩))
      all_goals refine .inr ⟨by simp only [htk, List.length_append, List.length_cons]; omega, ?_, ?_⟩
      all_goals first
        | (simp only [htk, ← List.append_assoc, ← hmd, List.length_append, List.length_cons, List.length_nil]; done)
        | (simp only [htk, ← List.append_assoc, ← hmd, List.length_append, List.length_cons, List.length_nil]; rfl)
        | (simp only [htk, ← List.append_assoc, ← hmd, tyR_append]; rfl)
    · have hk1 : k = la.length := by have := of_decide_eq_false hb; omega
      subst hk1
      rw [List.take_length] at hmd
      clear hGo
      obtain ⟨m1, rfl⟩ : ∃ m1, m1 = m := ⟨_, rfl⟩
      have h1m : m1 = la.map (fun x => Ty.mk c [x, b]) := hmd
      have hm1 := hm
      have hml1 : m1.length ≤ 1000000 := by rw [h1m, List.length_map]; omega
      clear hmd hm hml
      repeat' (first | (first | (simp only [go_sem, hc]) | (((first | apply sp1 | apply sp2 | apply sp3 | apply sp4 | apply sp5 | apply sp6 | apply sp7) <;> intro hb) <;> (simp only [go_sem, hb, hc])) | ((first | apply wm_done | apply wt_done | apply wg_run | refine fk ?_ ?_) <;> (simp only [go_sem, hc]))) | (first | (refine wl_next (wg_run ?_); (simp only [go_sem])) | refine wd_rounds 6 ?_) | fail)
      (first | refine cdq ?_ (hc := hbb) | refine cmq ?_ (hc := hbb) | refine ctq ?_ (hc := hbb)); (simp only [go_sem])
      have hlz_1 : lb.length < 1000000 := by omega
      refine wd_for (σ := Nat × C × List Blk) [1, 3, 4, 18, 19, 20, 26, 27, 28] (fun x => [.one (.ptr 2 0 0 0), .one x.2.1, .one (.sc (.int .i64 1)), .one (.sl (tyR [a, b])), .one (.sc (.int .i64 2)), .one (.sc (.int .i64 1)), .one (.sl (tyR lb)), .one (.sc (.int .i64 lb.length)), .one (.sc (.int .i64 (x.1 : Nat)))])
        (fun x => ⟨2, 29, .mut, [tyC (.mk c [a, b])]⟩ :: x.2.2)
        (fun x => x.1 ≤ lb.length ∧ Out1 (m1 ++ (lb.take x.1).map (fun y => Ty.mk c [a, y])) x.2.1 x.2.2) (fun x => lb.length - x.1) (0, .row 2 1 m1.length, [⟨2, 29, .mut, tyR m1⟩]) ⟨Nat.zero_le _, .inr ⟨by simpa using hm1, by simp, by simp⟩⟩ (hat [0, 1] (hI := ⟨rfl, rfl⟩)) ?_
      rintro ⟨k, cc, T⟩ ⟨hk, hO⟩ G hGo
      simp only at hk hO hGo ⊢
      have hml : (m1 ++ (lb.take k).map (fun y => Ty.mk c [a, y])).length ≤ 2000000 := by simp only [List.length_append, List.length_map, List.length_take, List.length_nil]; omega
      obtain ⟨m, hmd⟩ : ∃ m, m = m1 ++ (lb.take k).map (fun y => Ty.mk c [a, y]) := ⟨_, rfl⟩
      rw [← hmd] at hO hml
      rcases hO with ⟨hm, rfl, rfl⟩ | ⟨hm, rfl, rfl⟩
      · refine wg_run ?_
        (simp only [go_sem])
        ((first | apply sp1 | apply sp2 | apply sp3 | apply sp4 | apply sp5 | apply sp6 | apply sp7) <;> intro hb) <;> (simp only [go_sem, hb])
        · have hk1 : k < lb.length := by have := of_decide_eq_true hb; omega
          have hw1 : IntKind.i64.wrap (((k : Nat) : Int) + 1) = ((k + 1 : Nat) : Int) := wrap_succ hk1 (by omega)
          have htk := map_take1 hk1 (fun y => Ty.mk c [a, y])
          repeat' (first | (first | (simp only [go_sem, hc, hb, hw1]) | (((first | apply sp1 | apply sp2 | apply sp3 | apply sp4 | apply sp5 | apply sp6 | apply sp7) <;> intro hb) <;> (simp only [go_sem, hb, hc, hb, hw1])) | ((first | apply wm_done | apply wt_done | apply wg_run | refine fk ?_ ?_) <;> (simp only [go_sem, hc, hb, hw1]))) | ((first | refine kdq [] ?_ (hc := hcl) | refine kmq [] ?_ (hc := hcl) | refine ktq [] ?_ (hc := hcl)); rintro _ _ ⟨rfl, rfl⟩ <;> (simp only [go_sem])) | (first | (refine tr (.op 0 false (.op 1 false (.op 2 false (.op 3 false (.fork 4 false (.op 5 false (.op 6 false (.op 7 true .nil))) (.op 6 false (.op 4 false (.op 5 false (.op 7 true .nil))))))))) [] follows ?_; (simp only [go_sem, hc, hb])) | fail) | fail)
          all_goals refine hGo (k + 1, _, _) _ _ ⟨by omega, ?_⟩ (by simp only; omega) (hat [0, 5] (hI := ⟨rfl, rfl⟩))
          all_goals refine .inr ⟨by simp only [htk, List.length_append, List.length_cons]; omega, ?_, ?_⟩
          all_goals first
            | (simp only [htk, ← List.append_assoc, ← hmd, List.length_append, List.length_cons, List.length_nil, hm]; done)
            | (simp only [htk, ← List.append_assoc, ← hmd, List.length_append, List.length_cons, List.length_nil, hm]; rfl)
            | (simp only [htk, ← List.append_assoc, ← hmd, tyR_append, hm]; rfl)
        · have hk1 : k = lb.length := by have := of_decide_eq_false hb; omega
          subst hk1
          rw [List.take_length] at hmd
          clear hGo
          repeat' (first | (first | (simp only [go_sem, hc]) | (((first | apply sp1 | apply sp2 | apply sp3 | apply sp4 | apply sp5 | apply sp6 | apply sp7) <;> intro hb) <;> (simp only [go_sem, hb, hc])) | ((first | apply wm_done | apply wt_done | apply wg_run | refine fk ?_ ?_) <;> (simp only [go_sem, hc]))) | (first | (refine wl_next (wg_run ?_); (simp only [go_sem])) | refine wd_rounds 6 ?_) | fail)
          exact hR _ (rat [] (hK := ⟨by rw [← h1m, ← hmd, hm]; rfl, rfl⟩))
      · refine wg_run ?_
        (simp only [go_sem])
        ((first | apply sp1 | apply sp2 | apply sp3 | apply sp4 | apply sp5 | apply sp6 | apply sp7) <;> intro hb) <;> (simp only [go_sem, hb])
        · have hk1 : k < lb.length := by have := of_decide_eq_true hb; omega
          have hw1 : IntKind.i64.wrap (((k : Nat) : Int) + 1) = ((k + 1 : Nat) : Int) := wrap_succ hk1 (by omega)
          have htk := map_take1 hk1 (fun y => Ty.mk c [a, y])
          have hcap : (m.length + 1) * 32 ≤ 140737488355328 := by omega
          repeat' (first | (first | (simp only [go_sem, hc, hb, hw1, hcap]) | (((first | apply sp1 | apply sp2 | apply sp3 | apply sp4 | apply sp5 | apply sp6 | apply sp7) <;> intro hb) <;> (simp only [go_sem, hb, hc, hb, hw1, hcap])) | ((first | apply wm_done | apply wt_done | apply wg_run | refine fk ?_ ?_) <;> (simp only [go_sem, hc, hb, hw1, hcap]))) | ((first | refine kdq [] ?_ (hc := hcl) | refine kmq [] ?_ (hc := hcl) | refine ktq [] ?_ (hc := hcl)); rintro _ _ ⟨rfl, rfl⟩ <;> (simp only [go_sem])) | (first | (refine tr (.op 0 false (.op 1 false (.op 2 false (.op 3 false (.fork 4 false (.op 5 false (.op 6 false (.op 7 true .nil))) (.op 6 false (.op 4 false (.op 5 false (.op 7 true .nil))))))))) [] follows ?_; (simp only [go_sem, hc, hb])) | fail) | fail)
          all_goals refine hGo (k + 1, _, _) _ _ ⟨by omega, ?_⟩ (by simp only; omega) (hat [0, 6] (hI := ⟨rfl, rfl⟩))
          all_goals refine .inr ⟨by simp only [htk, List.length_append, List.length_cons]; omega, ?_, ?_⟩
          all_goals first
            | (simp only [htk, ← List.append_assoc, ← hmd, List.length_append, List.length_cons, List.length_nil]; done)
            | (simp only [htk, ← List.append_assoc, ← hmd, List.length_append, List.length_cons, List.length_nil]; rfl)
            | (simp only [htk, ← List.append_assoc, ← hmd, tyR_append]; rfl)
        · have hk1 : k = lb.length := by have := of_decide_eq_false hb; omega
          subst hk1
          rw [List.take_length] at hmd
          clear hGo
          repeat' (first | (first | (simp only [go_sem, hc]) | (((first | apply sp1 | apply sp2 | apply sp3 | apply sp4 | apply sp5 | apply sp6 | apply sp7) <;> intro hb) <;> (simp only [go_sem, hb, hc])) | ((first | apply wm_done | apply wt_done | apply wg_run | refine fk ?_ ?_) <;> (simp only [go_sem, hc]))) | (first | (refine wl_next (wg_run ?_); (simp only [go_sem])) | refine wd_rounds 6 ?_) | fail)
          exact hR _ (rat [] (hK := ⟨by rw [← h1m, ← hmd], rfl⟩))
end Go.Proofs.Ytkkijdlgmlffoaa
