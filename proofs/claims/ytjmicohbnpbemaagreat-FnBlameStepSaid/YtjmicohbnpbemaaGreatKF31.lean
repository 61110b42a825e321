/- Texts of the proof, one behind another. -/
import Derived.Test.YtjmicohbnpbemaaGreatKF27
import Derived.Test.YtjmicohbnpbemaaGreatKF30
set_option linter.unusedSimpArgs false
set_option linter.unusedVariables false
/- Blame: terms as they come. No program, no world. -/
namespace Go.Proofs.Grad
theorem E.safe_tm (l : Int) (e : E) (h : e.wf = true) : e.tm.safeB l = e.safe l := by
  have one : ∀ k a, (k == (14 : Int)) = false → (nd k [a]).safeB l = a.safeB l := by
    intro k a hk; simp [Tm.safeB, nd, Tm.castsL, Tm.castsLs, ownCast, Tm.kind, hk]
  have two : ∀ k a b, (k == (14 : Int)) = false → (nd k [a, b]).safeB l = (a.safeB l && b.safeB l) := by
    intro k a b hk; simp [Tm.safeB, nd, Tm.castsL, Tm.castsLs, ownCast, Tm.kind, hk]
  induction e with
  | var _ | num _ | tru | fls => simp [E.tm, nd, Tm.safeB, Tm.castsL, Tm.castsLs, ownCast, Tm.kind, E.safe]
  | lam x t a ih =>
    simp only [E.wf, Bool.and_eq_true] at h
    rw [E.safe, ← ih h.2.2]
    simp [E.tm, Tm.safeB, Tm.castsL, Tm.castsLs, ownCast, Tm.kind]
  | fst a ih => simp only [E.wf] at h; rw [E.safe, ← ih h]; exact one 11 _ rfl
  | snd a ih => simp only [E.wf] at h; rw [E.safe, ← ih h]; exact one 12 _ rfl
  | app a b iha ihb => simp only [E.wf, Bool.and_eq_true] at h; rw [E.safe, ← iha h.1, ← ihb h.2]; exact two 6 _ _ rfl
  | add a b iha ihb => simp only [E.wf, Bool.and_eq_true] at h; rw [E.safe, ← iha h.1, ← ihb h.2]; exact two 7 _ _ rfl
  | less a b iha ihb => simp only [E.wf, Bool.and_eq_true] at h; rw [E.safe, ← iha h.1, ← ihb h.2]; exact two 8 _ _ rfl
  | pair a b iha ihb => simp only [E.wf, Bool.and_eq_true] at h; rw [E.safe, ← iha h.1, ← ihb h.2]; exact two 10 _ _ rfl
  | ite a b c iha ihb ihc =>
    simp only [E.wf, Bool.and_eq_true] at h
    rw [E.safe, ← iha h.1, ← ihb h.2.1, ← ihc h.2.2]
    simp [E.tm, nd, Tm.safeB, Tm.castsL, Tm.castsLs, ownCast, Tm.kind]
  | asc t a ih =>
    simp only [E.wf, Bool.and_eq_true] at h
    rw [E.safe, ← ih h.2]
    simp [E.tm, Tm.safeB, Tm.castsL, Tm.castsLs, ownCast, Tm.kind]
  | cast s t k a ih =>
    simp only [E.wf, Bool.and_eq_true, decide_eq_true_eq] at h
    rw [E.safe, ← ih h.2.2.2]
    have hu := unsB_cast h.1.1 h.1.2 k l a
    have hc : (E.cast s t k a).tm.castsL = (E.cast s t k a).tm :: a.tm.castsL := by simp [E.tm, Tm.castsL, Tm.castsLs, ownCast, Tm.kind]
    simp only [Tm.safeB, hc, List.any_cons, hu, uns, Bool.not_or]
theorem Tm.labs_of {e : E} (h : e.okC = true) : e.tm.labsV = setL e.labs := by
  have h' : e.tm.castV = true := by rw [E.castV_tm]; exact h
  unfold Tm.labsV
  rw [h', E.labs_tm]
theorem Tm.mem_labs {e : E} (h : e.okC = true) (z : Int) : z ∈ e.tm.labsV ↔ z ∈ e.labs := by rw [Tm.labs_of h]; exact (setL_spec _).2.1 z
theorem Tm.mem_uns {e : E} (h : e.okC = true) (z : Int) : z ∈ e.tm.unsV ↔ e.safe z = false ∧ (z ∈ e.labs ∨ -z ∈ e.labs) := by
  have h' : e.tm.castV = true := by rw [E.castV_tm]; exact h
  unfold Tm.unsV
  rw [h']
  simp only []
  rw [E.labs_tm, (setL_spec _).2.1 z, mem_unsL, E.safe_tm z e (E.wf_ok h)]
theorem Tm.labsV_bd (t : Tm) : t.labsV.length ≤ 200 ∧ ∀ z ∈ t.labsV, -99 ≤ z ∧ z ≤ 99 := by
  cases hc : t.castV with
  | false => unfold Tm.labsV; rw [hc]; exact ⟨by simp, by simp⟩
  | true =>
    obtain ⟨e, rfl, ho⟩ := Tm.castV_E hc
    refine ⟨?_, fun z hz => ?_⟩
    · rw [Tm.labs_of ho]
      have := (setL_spec e.labs).2.2
      have := e.labs_nodes ho
      omega
    · exact lab_bd (e.labs_ok (E.wf_ok ho) z ((Tm.mem_labs ho z).1 hz))
theorem SC.of_step {e : E} {b : Int} (h : e.sc = .blame b) : e.val = false ∧ e.step = .blame b := by
  unfold E.sc at h
  split at h
  · cases h
  · rename_i hv
    refine ⟨hv, ?_⟩
    split at h
    · split at h <;> cases h
    · rename_i hs; cases h; exact hs
    · cases h
theorem Tm.step_safeV {x : Tm} {y : E} {l : Int} (h : x.stepV = .took y) (hs : x.safeV l = true) : y.tm.safeV l = true := by
  obtain ⟨e, rfl, ho, hsc⟩ := Tm.stepV_tookE h
  obtain ⟨hv, hst, hoy⟩ := E.sc_took hsc
  unfold Tm.safeV at hs ⊢
  simp only [Bool.and_eq_true] at hs ⊢
  rw [E.safe_tm l e (E.wf_ok ho)] at hs
  rw [E.safe_tm l y (E.wf_ok hoy)]
  have h1 := step_safe l e (E.wf_ok ho) hv hs.2.2
  rw [hst] at h1
  exact ⟨by rw [E.castV_tm]; exact hoy, hs.2.1, h1⟩
theorem Tm.step_safeT {x : Tm} {y : E} (h : x.stepV = .took y) (hs : x.unsV = []) : y.tm.unsV = [] := by
  obtain ⟨e, rfl, ho, hsc⟩ := Tm.stepV_tookE h
  obtain ⟨hv, hst, hoy⟩ := E.sc_took hsc
  rw [List.eq_nil_iff_forall_not_mem]
  intro b hb
  rw [Tm.mem_uns hoy] at hb
  have h1 := step_labs e
  rw [hst] at h1
  have hm : b ∈ e.labs ∨ -b ∈ e.labs := by
    rcases hb.2 with h2 | h2
    · exact h1 b h2
    · rcases h1 (-b) h2 with h3 | h3
      · exact .inr h3
      · rw [Int.neg_neg] at h3; exact .inl h3
  have hse : e.safe b = true := by
    cases hq : e.safe b with
    | true => rfl
    | false =>
      have : b ∈ e.tm.unsV := (Tm.mem_uns ho b).2 ⟨hq, hm⟩
      rw [hs] at this; cases this
  have h2 := step_safe b e (E.wf_ok ho) hv hse
  rw [hst] at h2
  have h3 : y.safe b = true := h2
  rw [hb.1] at h3; cases h3
/-- the labels of what a step makes -/
theorem Tm.step_labsV {x : Tm} {y : E} (h : x.stepV = .took y) : ∀ z ∈ y.tm.labsV, ∃ w ∈ x.labsV, w = z ∨ w = -z := by
  obtain ⟨e, rfl, ho, hsc⟩ := Tm.stepV_tookE h
  obtain ⟨hv, hst, hoy⟩ := E.sc_took hsc
  intro z hz
  have h1 := step_labs e
  rw [hst] at h1
  rcases h1 z ((Tm.mem_labs hoy z).1 hz) with h2 | h2
  · exact ⟨z, (Tm.mem_labs ho z).2 h2, .inl rfl⟩
  · exact ⟨-z, (Tm.mem_labs ho (-z)).2 h2, .inr rfl⟩
theorem Tm.blame_labsV {x : Tm} {b : Int} (h : x.stepV = .blame b) : (∃ w ∈ x.labsV, w = b ∨ w = -b) ∧ -99 ≤ b ∧ b ≤ 99 := by
  cases hc : x.castV with
  | false => rw [Tm.stepV_bad hc] at h; cases h
  | true =>
    obtain ⟨e, rfl, ho⟩ := Tm.castV_E hc
    rw [Tm.stepV_E ho] at h
    have h1 := step_labs e
    rw [(SC.of_step h).2] at h1
    have hbd := (Tm.labsV_bd e.tm).2
    rcases h1 with h2 | h2
    · have h3 := (Tm.mem_labs ho b).2 h2
      exact ⟨⟨b, h3, .inl rfl⟩, hbd b h3⟩
    · have h3 := (Tm.mem_labs ho (-b)).2 h2
      have := hbd _ h3
      exact ⟨⟨-b, h3, .inr rfl⟩, by omega⟩
theorem any_take_succ {l : List Int} {k : Nat} (p : Int → Bool) (h : k < l.length) : (l.take (k + 1)).any p = ((l.take k).any p || p (Sh.num l k)) := by
  rw [Sh.num_eq h, List.take_succ_eq_append_getElem h, List.any_append]; simp
theorem any_all {l : List Int} {p : Int → Bool} {z : Int} (hz : z ∈ l) (hp : p z = true) : (l.take l.length).any p = true := by
  rw [List.take_length, List.any_eq_true]; exact ⟨z, hz, hp⟩
end Go.Proofs.Grad
/- The labels of a term's casts, in the program; a draw with a label. On shadows. -/
namespace Go.Proofs.YtjmicohbnpbemaaGreat
open Go.RowKit Go.Proofs.Sh Go.Proofs.Grad
set_option maxRecDepth 100000
set_option maxHeartbeats 8000000
theorem iCastLabels (t : Tm) (h : t.size < 100000000) : AFn Tryz.prog 24 [.agg (teC t)] (.one (.sl (intR t.labsV))) := by
  have hv := iCastV t
  have hca := iCasts 100000000 (by omega) t h
  unfold Tm.labsV
  cases e : t.castV
  · rw [e] at hv
    refine fn_in ?_; refine acl_in Tryz.func24 rfl isfn_24 (Nat.le_of_ble_eq_true rfl) (fun R hR => ?_); rw [Tryz.results24] at hR; refine wg_run ?_; (simp only [Tryz.f24, go_sem])
    repeat' (first | (first | (((first | apply sp1 | apply sp2 | apply sp3 | apply sp4 | apply sp5 | apply sp6 | apply sp7) <;> intro hb) <;> (simp only [go_sem, hb])) | ((first | apply wm_done | apply wt_done | apply wg_run | refine fk ?_ ?_) <;> (simp only [go_sem]))) | (first | refine cdq ?_ (hc := hv) | refine cmq ?_ (hc := hv) | refine ctq ?_ (hc := hv)); (simp only [go_sem]))
    (refine hR _ (rat [] (hK := ⟨rfl, rfl⟩)))
  · rw [e] at hv
    obtain ⟨x, rfl, hx⟩ := Tm.castV_E e
    have hn := x.labs_nodes hx
    have hcl : x.tm.castsL.length = x.labs.length := by rw [← E.labs_tm]; simp [Tm.labs]
    have hlo : labsOf x.tm.castsL = x.labs := by rw [← E.labs_tm]; rfl
    simp only []
    rw [E.labs_tm, ← hlo]
    generalize x.tm.castsL = cs at *
    refine fn_in ?_; refine acl_in Tryz.func24 rfl isfn_24 (Nat.le_of_ble_eq_true rfl) (fun R hR => ?_); rw [Tryz.results24] at hR; refine wg_run ?_; (simp only [Tryz.f24, go_sem])
    repeat' (first | (first | (((first | apply sp1 | apply sp2 | apply sp3 | apply sp4 | apply sp5 | apply sp6 | apply sp7) <;> intro hb) <;> (simp only [go_sem, hb])) | ((first | apply wm_done | apply wt_done | apply wg_run | refine fk ?_ ?_) <;> (simp only [go_sem]))) | (first | refine cdq ?_ (hc := hv) | refine cmq ?_ (hc := hv) | refine ctq ?_ (hc := hv)); (simp only [go_sem]) | (first | refine cdq ?_ (hc := hca) | refine cmq ?_ (hc := hca) | refine ctq ?_ (hc := hca)); (simp only [go_sem]) | fail)
    refine wd_for [1, 3, 10, 11, 12] (fun (x' : Nat × List Int) => [.one (.ptr 9 0 0 0), .one (match x'.2 with | [] => .sc (.slice none 0 0) | z :: m => .row 1 1 (m.length + 1)), .one (.sl (teR cs)), .one (.sc (.int .i64 cs.length)), .one (.sc (.int .i64 (x'.1 : Nat)))])
      (fun x' => match x'.2 with | [] => [⟨9, 28, .mut, [teC x.tm]⟩] | z :: m => [⟨9, 28, .mut, [teC x.tm]⟩, ⟨1, 3, .mut, intR (z :: m)⟩])
      (fun x' => x'.1 ≤ cs.length ∧ x'.2 = (labsOf cs).take x'.1) (fun x' => cs.length - x'.1) (0, []) ⟨Nat.zero_le _, rfl⟩ (hat [0] (hI := ⟨rfl, rfl⟩)) ?_
    rintro ⟨k, acc⟩ ⟨hk, hacc⟩ G hG
    simp only [] at hk hacc hG
    have hlc : (labsOf cs).length = cs.length := by simp [labsOf]
    have hal : acc.length ≤ cs.length := by
      rw [hacc]; simp only [List.length_take] at *; omega
    refine wg_run ?_
    (simp only [go_sem])
    ((first | apply sp1 | apply sp2 | apply sp3 | apply sp4 | apply sp5 | apply sp6 | apply sp7) <;> intro hb) <;> (simp only [go_sem, hb])
    · have hk1 : k < cs.length := by have := of_decide_eq_true hb; omega
      have hw1 := wrap_succ hk1 (by omega)
      have hnx : (labsOf cs).take (k + 1) = acc ++ [(teKid cs k).label] := by rw [Sh.numtake (by omega), Sh.num_labs hk1, ← hacc]
      have hcap1 : (acc.length + 1) * 8 ≤ 140737488355328 := by omega
      rcases acc with _ | ⟨z, m⟩
      all_goals
        simp only [List.length_cons, List.length_nil, List.nil_append, List.cons_append] at hcap1 hnx
      all_goals
        repeat' (first | (first | (simp only [go_sem, hb, hw1, hcap1]) | (((first | apply sp1 | apply sp2 | apply sp3 | apply sp4 | apply sp5 | apply sp6 | apply sp7) <;> intro hb) <;> (simp only [go_sem, hb, hb, hw1, hcap1])) | ((first | apply wm_done | apply wt_done | apply wg_run | refine fk ?_ ?_) <;> (simp only [go_sem, hb, hw1, hcap1]))) | ((first | refine mxq6 [] ?_ | refine mxq5 [] ?_ | refine mxq4 [] ?_ | refine mxq3 [] ?_ | refine mxq2 [] ?_ | refine mxq1 [] ?_ | refine mxq0 [] ?_ | fail); (simp only [go_sem, hb])) | fail)
      all_goals
        first
          | (refine hG (k + 1, _) _ _ ⟨by omega, hnx.symm⟩ (by simp only []; omega) (hat [0, 1] (hI := ⟨?_, ?_⟩)) <;> first | rfl | (simp only [List.length_append, List.length_cons, List.length_nil]; done) | (simp only [intR, intR_append, List.cons_append, List.nil_append, List.append_assoc]; done))
          | (refine hG (k + 1, _) _ _ ⟨by omega, hnx.symm⟩ (by simp only []; omega) (hat [0, 2] (hI := ⟨?_, ?_⟩)) <;> first | rfl | (simp only [List.length_append, List.length_cons, List.length_nil]; done) | (simp only [intR, intR_append, List.cons_append, List.nil_append, List.append_assoc]; done))
          | (refine hG (k + 1, _) _ _ ⟨by omega, hnx.symm⟩ (by simp only []; omega) (hat [0, 3] (hI := ⟨?_, ?_⟩)) <;> first | rfl | (simp only [List.length_append, List.length_cons, List.length_nil]; done) | (simp only [intR, intR_append, List.cons_append, List.nil_append, List.append_assoc]; done))
          | (refine hG (k + 1, _) _ _ ⟨by omega, hnx.symm⟩ (by simp only []; omega) (hat [0, 4] (hI := ⟨?_, ?_⟩)) <;> first | rfl | (simp only [List.length_append, List.length_cons, List.length_nil]; done) | (simp only [intR, intR_append, List.cons_append, List.nil_append, List.append_assoc]; done))
    · have hk1 : (labsOf cs).take k = labsOf cs := List.take_of_length_le (by have := of_decide_eq_false hb; omega)
      rw [hk1] at hacc
      clear hG
      rcases acc with _ | ⟨z, m⟩
      · have e0 : setL [] = [] := (setL_nil_iff []).2 rfl
        have s1 := sortNil
        have s2 := compNil
        repeat' (first | (first | (((first | apply sp1 | apply sp2 | apply sp3 | apply sp4 | apply sp5 | apply sp6 | apply sp7) <;> intro hb) <;> (simp only [go_sem, hb])) | ((first | apply wm_done | apply wt_done | apply wg_run | refine fk ?_ ?_) <;> (simp only [go_sem]))) | (first | refine cdq ?_ (hc := s1) | refine cmq ?_ (hc := s1) | refine ctq ?_ (hc := s1)); (simp only [go_sem]) | (first | refine cdq ?_ (hc := s2) | refine cmq ?_ (hc := s2) | refine ctq ?_ (hc := s2)); (simp only [go_sem]) | fail)
        (refine hR _ (rat [] (hK := ⟨?_, rfl⟩)))
        rw [← hacc, e0]; rfl
      · simp only [List.length_cons] at hal
        have s1 := sortCall (z :: m) (by simp only [List.length_cons]; omega)
        have s2 := compCall (srt (z :: m)) (by rw [srt_length]; simp only [List.length_cons]; omega)
        rw [srt_length] at s2
        simp only [List.length_cons] at s1 s2
        simp only [show Lib.compact (srt (z :: m)) = setL (z :: m) from rfl] at s2
        repeat' (first | (first | (((first | apply sp1 | apply sp2 | apply sp3 | apply sp4 | apply sp5 | apply sp6 | apply sp7) <;> intro hb) <;> (simp only [go_sem, hb])) | ((first | apply wm_done | apply wt_done | apply wg_run | refine fk ?_ ?_) <;> (simp only [go_sem]))) | ((first | refine kdq [1] ?_ (hc := s1) | refine kmq [1] ?_ (hc := s1) | refine ktq [1] ?_ (hc := s1)); rintro _ _ ⟨rfl, rfl⟩ <;> (simp only [go_sem])) | ((first | refine kdq [1] ?_ (hc := s2) | refine kmq [1] ?_ (hc := s2) | refine ktq [1] ?_ (hc := s2)); rintro _ _ ⟨rfl, rfl⟩ <;> (simp only [go_sem])) | fail)
        (refine hR _ (rat [] (hK := ⟨?_, rfl⟩)))
        rw [← hacc]
end Go.Proofs.YtjmicohbnpbemaaGreat
