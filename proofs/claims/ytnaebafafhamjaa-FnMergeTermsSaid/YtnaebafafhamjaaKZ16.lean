/- Texts of the proof, one behind another. -/
import Derived.Test.YtnaebafafhamjaaKZ12
import Derived.Test.YtnaebafafhamjaaKZ14
import Derived.Test.YtnaebafafhamjaaKZ15
set_option linter.unusedSimpArgs false
set_option linter.unusedVariables false
/- Typing in the reference. On shadows. -/
namespace Go.Proofs.Ytnaebafafhamjaa
open Go.RowKit Go.Proofs.Sh Go.Proofs.Grad
set_option maxRecDepth 100000
set_option maxHeartbeats 8000000
theorem sConsT (a b : T) : AFn Try.prog 44 [.agg (tyC a.ty), .agg (tyC b.ty)] (.one (.sc (.bool (a.cons b)))) := l1Cons (a.size + 1) a b (by omega)
theorem T.two_size {a b : T} (ha : a.depth ≤ 4) (hb : b.depth ≤ 4) : (T.fn a b).ty.size < 100000 ∧ (T.pr a b).ty.size < 100000 := by
  have h1 := T.ty_small ha
  have h2 := T.ty_small hb
  simp only [T.ty, Ty.size, Ty.sizes] at *
  omega
theorem sRes6 (t : Tm) (h : t.kind = 6) (s u : T) (hs : s.depth ≤ 4) (hu : u.depth ≤ 4) : ACl Try.prog 180 [.agg (teC t), .one (.sl [tyC s.ty, tyC u.ty])] [] (TyR (rApp s u)) := by
  have hm := l3MatchF s hs
  unfold rApp
  cases em : s.mfn with
  | none =>
    rw [em] at hm
    simp only [tyO2] at hm
    refine acl_in Try.func180 rfl isfn_180 (Nat.le_of_ble_eq_true rfl) (fun R hR => ?_); rw [Try.results180] at hR; refine wg_run ?_; (simp only [Try.f180, go_sem, h])
    repeat' (first | (first | (simp only [go_sem, h]) | (((first | apply sp1 | apply sp2 | apply sp3 | apply sp4 | apply sp5 | apply sp6 | apply sp7) <;> intro hb) <;> (simp only [go_sem, hb, h])) | ((first | apply wm_done | apply wt_done | apply wg_run | refine fk ?_ ?_) <;> (simp only [go_sem, h]))) | ((first | refine mxq6 [] ?_ | refine mxq5 [] ?_ | refine mxq4 [] ?_ | refine mxq3 [] ?_ | refine mxq2 [] ?_ | refine mxq1 [] ?_ | refine mxq0 [] ?_ | fail); (simp only [go_sem])) | (first | refine cdq ?_ (hc := hm) | refine cmq ?_ (hc := hm) | refine ctq ?_ (hc := hm)); (simp only [go_sem]) | fail)
    exact hR _ (rat [] (hK := (.inr ⟨rfl, noTy, by simp [noTy, Ty.size, Ty.sizes], rfl, rfl⟩)))
  | some pq =>
    obtain ⟨p, q⟩ := pq
    rw [em] at hm
    simp only [tyO2] at hm
    have hc := sConsT u p
    have hd := T.mfn_depth em hs
    have hq := T.ty_small hd.2
    simp only []
    cases ec : u.cons p
    all_goals
      rw [ec] at hc
      refine acl_in Try.func180 rfl isfn_180 (Nat.le_of_ble_eq_true rfl) (fun R hR => ?_); rw [Try.results180] at hR; refine wg_run ?_; (simp only [Try.f180, go_sem, h])
      repeat' (first | (first | (simp only [go_sem, h]) | (((first | apply sp1 | apply sp2 | apply sp3 | apply sp4 | apply sp5 | apply sp6 | apply sp7) <;> intro hb) <;> (simp only [go_sem, hb, h])) | ((first | apply wm_done | apply wt_done | apply wg_run | refine fk ?_ ?_) <;> (simp only [go_sem, h]))) | ((first | refine mxq6 [] ?_ | refine mxq5 [] ?_ | refine mxq4 [] ?_ | refine mxq3 [] ?_ | refine mxq2 [] ?_ | refine mxq1 [] ?_ | refine mxq0 [] ?_ | fail); (simp only [go_sem])) | (first | refine cdq ?_ (hc := hm) | refine cmq ?_ (hc := hm) | refine ctq ?_ (hc := hm)); (simp only [go_sem]) | (first | refine cdq ?_ (hc := hc) | refine cmq ?_ (hc := hc) | refine ctq ?_ (hc := hc)); (simp only [go_sem]) | fail)
    · exact hR _ (rat [] (hK := (.inr ⟨rfl, q.ty, by omega, rfl, rfl⟩)))
    · exact hR _ (rat [] (hK := (.inl ⟨q, rfl, rfl, rfl⟩)))
theorem sRes7 (t : Tm) (h : t.kind = 7) (s u : T) : ACl Try.prog 180 [.agg (teC t), .one (.sl [tyC s.ty, tyC u.ty])] [] (TyR (rNum .int s u)) := by
  have h1 := sConsT s .int
  have h2 := sConsT u .int
  have hi := sIntT
  unfold rNum
  cases e1 : s.cons .int
  all_goals
    cases e2 : u.cons .int
    all_goals
      rw [e1] at h1
      rw [e2] at h2
      refine acl_in Try.func180 rfl isfn_180 (Nat.le_of_ble_eq_true rfl) (fun R hR => ?_); rw [Try.results180] at hR; refine wg_run ?_; (simp only [Try.f180, go_sem, h])
      repeat' (first | (first | (simp only [go_sem, h]) | (((first | apply sp1 | apply sp2 | apply sp3 | apply sp4 | apply sp5 | apply sp6 | apply sp7) <;> intro hb) <;> (simp only [go_sem, hb, h])) | ((first | apply wm_done | apply wt_done | apply wg_run | refine fk ?_ ?_) <;> (simp only [go_sem, h]))) | ((first | refine mxq6 [] ?_ | refine mxq5 [] ?_ | refine mxq4 [] ?_ | refine mxq3 [] ?_ | refine mxq2 [] ?_ | refine mxq1 [] ?_ | refine mxq0 [] ?_ | fail); (simp only [go_sem])) | (first | refine cdq ?_ (hc := hi) | refine cmq ?_ (hc := hi) | refine ctq ?_ (hc := hi)); (simp only [go_sem]) | (first | refine cdq ?_ (hc := h1) | refine cmq ?_ (hc := h1) | refine ctq ?_ (hc := h1)); (simp only [go_sem]) | (first | refine cdq ?_ (hc := h2) | refine cmq ?_ (hc := h2) | refine ctq ?_ (hc := h2)); (simp only [go_sem]) | fail)
      first
        | exact hR _ (rat [] (hK := (.inr ⟨rfl, T.int.ty, by simp [T.ty, Ty.size, Ty.sizes], rfl, rfl⟩)))
        | exact hR _ (rat [] (hK := (.inl ⟨.int, rfl, rfl, rfl⟩)))
theorem sRes8 (t : Tm) (h : t.kind = 8) (s u : T) : ACl Try.prog 180 [.agg (teC t), .one (.sl [tyC s.ty, tyC u.ty])] [] (TyR (rNum .bool s u)) := by
  have h1 := sConsT s .int
  have h2 := sConsT u .int
  have hi := sIntT
  have hb := sBoolT
  unfold rNum
  cases e1 : s.cons .int
  all_goals
    cases e2 : u.cons .int
    all_goals
      rw [e1] at h1
      rw [e2] at h2
      refine acl_in Try.func180 rfl isfn_180 (Nat.le_of_ble_eq_true rfl) (fun R hR => ?_); rw [Try.results180] at hR; refine wg_run ?_; (simp only [Try.f180, go_sem, h])
      repeat' (first | (first | (simp only [go_sem, h]) | (((first | apply sp1 | apply sp2 | apply sp3 | apply sp4 | apply sp5 | apply sp6 | apply sp7) <;> intro hb) <;> (simp only [go_sem, hb, h])) | ((first | apply wm_done | apply wt_done | apply wg_run | refine fk ?_ ?_) <;> (simp only [go_sem, h]))) | ((first | refine mxq6 [] ?_ | refine mxq5 [] ?_ | refine mxq4 [] ?_ | refine mxq3 [] ?_ | refine mxq2 [] ?_ | refine mxq1 [] ?_ | refine mxq0 [] ?_ | fail); (simp only [go_sem])) | (first | refine cdq ?_ (hc := hi) | refine cmq ?_ (hc := hi) | refine ctq ?_ (hc := hi)); (simp only [go_sem]) | (first | refine cdq ?_ (hc := hb) | refine cmq ?_ (hc := hb) | refine ctq ?_ (hc := hb)); (simp only [go_sem]) | (first | refine cdq ?_ (hc := h1) | refine cmq ?_ (hc := h1) | refine ctq ?_ (hc := h1)); (simp only [go_sem]) | (first | refine cdq ?_ (hc := h2) | refine cmq ?_ (hc := h2) | refine ctq ?_ (hc := h2)); (simp only [go_sem]) | fail)
      first
        | exact hR _ (rat [] (hK := (.inr ⟨rfl, T.bool.ty, by simp [T.ty, Ty.size, Ty.sizes], rfl, rfl⟩)))
        | exact hR _ (rat [] (hK := (.inl ⟨.bool, rfl, rfl, rfl⟩)))
theorem sRes9 (t : Tm) (h : t.kind = 9) (s u v : T) (hu : u.depth ≤ 4) (hv : v.depth ≤ 4) : ACl Try.prog 180 [.agg (teC t), .one (.sl [tyC s.ty, tyC u.ty, tyC v.ty])] [] (TyR (rIte s u v)) := by
  have h1 := sConsT u v
  have h2 := sConsT s .bool
  have hb := sBoolT
  have hm := l1Meet u v hu hv
  have hd := T.ty_small (t := u.meet v) (by have := T.meet_depth u v; omega)
  unfold rIte
  cases e1 : u.cons v
  · rw [e1] at h1
    refine acl_in Try.func180 rfl isfn_180 (Nat.le_of_ble_eq_true rfl) (fun R hR => ?_); rw [Try.results180] at hR; refine wg_run ?_; (simp only [Try.f180, go_sem, h])
    repeat' (first | (first | (simp only [go_sem, h]) | (((first | apply sp1 | apply sp2 | apply sp3 | apply sp4 | apply sp5 | apply sp6 | apply sp7) <;> intro hb) <;> (simp only [go_sem, hb, h])) | ((first | apply wm_done | apply wt_done | apply wg_run | refine fk ?_ ?_) <;> (simp only [go_sem, h]))) | ((first | refine mxq6 [] ?_ | refine mxq5 [] ?_ | refine mxq4 [] ?_ | refine mxq3 [] ?_ | refine mxq2 [] ?_ | refine mxq1 [] ?_ | refine mxq0 [] ?_ | fail); (simp only [go_sem])) | (first | refine cdq ?_ (hc := h1) | refine cmq ?_ (hc := h1) | refine ctq ?_ (hc := h1)); (simp only [go_sem]) | fail)
    exact hR _ (rat [] (hK := (.inr ⟨rfl, noTy, by simp [noTy, Ty.size, Ty.sizes], rfl, rfl⟩)))
  · have hm := hm e1
    rw [e1] at h1
    cases e2 : s.cons .bool
    all_goals
      rw [e2] at h2
      refine acl_in Try.func180 rfl isfn_180 (Nat.le_of_ble_eq_true rfl) (fun R hR => ?_); rw [Try.results180] at hR; refine wg_run ?_; (simp only [Try.f180, go_sem, h])
      repeat' (first | (first | (simp only [go_sem, h]) | (((first | apply sp1 | apply sp2 | apply sp3 | apply sp4 | apply sp5 | apply sp6 | apply sp7) <;> intro hb) <;> (simp only [go_sem, hb, h])) | ((first | apply wm_done | apply wt_done | apply wg_run | refine fk ?_ ?_) <;> (simp only [go_sem, h]))) | ((first | refine mxq6 [] ?_ | refine mxq5 [] ?_ | refine mxq4 [] ?_ | refine mxq3 [] ?_ | refine mxq2 [] ?_ | refine mxq1 [] ?_ | refine mxq0 [] ?_ | fail); (simp only [go_sem])) | (first | refine cdq ?_ (hc := h1) | refine cmq ?_ (hc := h1) | refine ctq ?_ (hc := h1)); (simp only [go_sem]) | (first | refine cdq ?_ (hc := hm) | refine cmq ?_ (hc := hm) | refine ctq ?_ (hc := hm)); (simp only [go_sem]) | (first | refine cdq ?_ (hc := hb) | refine cmq ?_ (hc := hb) | refine ctq ?_ (hc := hb)); (simp only [go_sem]) | (first | refine cdq ?_ (hc := h2) | refine cmq ?_ (hc := h2) | refine ctq ?_ (hc := h2)); (simp only [go_sem]) | fail)
    · exact hR _ (rat [] (hK := (.inr ⟨rfl, (u.meet v).ty, by omega, rfl, rfl⟩)))
    · exact hR _ (rat [] (hK := (.inl ⟨u.meet v, rfl, rfl, rfl⟩)))
theorem sRes10 (t : Tm) (h : t.kind = 10) (s u : T) (hs : s.depth ≤ 4) (hu : u.depth ≤ 4) : ACl Try.prog 180 [.agg (teC t), .one (.sl [tyC s.ty, tyC u.ty])] [] (TyR (twoP s u)) := by
  have hm := l3TwoP s u hs hu
  have hz := (T.two_size hs hu).2
  unfold twoP
  cases ed : decide ((T.pr s u).depth ≤ 4)
  all_goals
    rw [ed] at hm
    refine acl_in Try.func180 rfl isfn_180 (Nat.le_of_ble_eq_true rfl) (fun R hR => ?_); rw [Try.results180] at hR; refine wg_run ?_; (simp only [Try.f180, go_sem, h])
    repeat' (first | (first | (simp only [go_sem, h]) | (((first | apply sp1 | apply sp2 | apply sp3 | apply sp4 | apply sp5 | apply sp6 | apply sp7) <;> intro hb) <;> (simp only [go_sem, hb, h])) | ((first | apply wm_done | apply wt_done | apply wg_run | refine fk ?_ ?_) <;> (simp only [go_sem, h]))) | ((first | refine mxq6 [] ?_ | refine mxq5 [] ?_ | refine mxq4 [] ?_ | refine mxq3 [] ?_ | refine mxq2 [] ?_ | refine mxq1 [] ?_ | refine mxq0 [] ?_ | fail); (simp only [go_sem])) | (first | refine cdq ?_ (hc := hm) | refine cmq ?_ (hc := hm) | refine ctq ?_ (hc := hm)); (simp only [go_sem]) | fail)
  · exact hR _ (rat [] (hK := (.inr ⟨rfl, (T.pr s u).ty, hz, rfl, rfl⟩)))
  · exact hR _ (rat [] (hK := (.inl ⟨T.pr s u, rfl, rfl, rfl⟩)))
theorem sRes11 (t : Tm) (h : t.kind = 11) (s : T) (hs : s.depth ≤ 4) : ACl Try.prog 180 [.agg (teC t), .one (.sl [tyC s.ty])] [] (TyR (rFst s)) := by
  have hm := l3MatchP s hs
  unfold rFst
  cases em : s.mpr with
  | none =>
    rw [em] at hm
    simp only [tyO2] at hm
    refine acl_in Try.func180 rfl isfn_180 (Nat.le_of_ble_eq_true rfl) (fun R hR => ?_); rw [Try.results180] at hR; refine wg_run ?_; (simp only [Try.f180, go_sem, h])
    repeat' (first | (first | (simp only [go_sem, h]) | (((first | apply sp1 | apply sp2 | apply sp3 | apply sp4 | apply sp5 | apply sp6 | apply sp7) <;> intro hb) <;> (simp only [go_sem, hb, h])) | ((first | apply wm_done | apply wt_done | apply wg_run | refine fk ?_ ?_) <;> (simp only [go_sem, h]))) | ((first | refine mxq6 [] ?_ | refine mxq5 [] ?_ | refine mxq4 [] ?_ | refine mxq3 [] ?_ | refine mxq2 [] ?_ | refine mxq1 [] ?_ | refine mxq0 [] ?_ | fail); (simp only [go_sem])) | (first | refine cdq ?_ (hc := hm) | refine cmq ?_ (hc := hm) | refine ctq ?_ (hc := hm)); (simp only [go_sem]) | fail)
    exact hR _ (rat [] (hK := (.inr ⟨rfl, noTy, by simp [noTy, Ty.size, Ty.sizes], rfl, rfl⟩)))
  | some pq =>
    obtain ⟨p, q⟩ := pq
    rw [em] at hm
    simp only [tyO2] at hm
    refine acl_in Try.func180 rfl isfn_180 (Nat.le_of_ble_eq_true rfl) (fun R hR => ?_); rw [Try.results180] at hR; refine wg_run ?_; (simp only [Try.f180, go_sem, h])
    repeat' (first | (first | (simp only [go_sem, h]) | (((first | apply sp1 | apply sp2 | apply sp3 | apply sp4 | apply sp5 | apply sp6 | apply sp7) <;> intro hb) <;> (simp only [go_sem, hb, h])) | ((first | apply wm_done | apply wt_done | apply wg_run | refine fk ?_ ?_) <;> (simp only [go_sem, h]))) | ((first | refine mxq6 [] ?_ | refine mxq5 [] ?_ | refine mxq4 [] ?_ | refine mxq3 [] ?_ | refine mxq2 [] ?_ | refine mxq1 [] ?_ | refine mxq0 [] ?_ | fail); (simp only [go_sem])) | (first | refine cdq ?_ (hc := hm) | refine cmq ?_ (hc := hm) | refine ctq ?_ (hc := hm)); (simp only [go_sem]) | fail)
    exact hR _ (rat [] (hK := (.inl ⟨p, rfl, rfl, rfl⟩)))
theorem sRes12 (t : Tm) (h : t.kind = 12) (s : T) (hs : s.depth ≤ 4) : ACl Try.prog 180 [.agg (teC t), .one (.sl [tyC s.ty])] [] (TyR (rSnd s)) := by
  have hm := l3MatchP s hs
  unfold rSnd
  cases em : s.mpr with
  | none =>
    rw [em] at hm
    simp only [tyO2] at hm
    refine acl_in Try.func180 rfl isfn_180 (Nat.le_of_ble_eq_true rfl) (fun R hR => ?_); rw [Try.results180] at hR; refine wg_run ?_; (simp only [Try.f180, go_sem, h])
    repeat' (first | (first | (simp only [go_sem, h]) | (((first | apply sp1 | apply sp2 | apply sp3 | apply sp4 | apply sp5 | apply sp6 | apply sp7) <;> intro hb) <;> (simp only [go_sem, hb, h])) | ((first | apply wm_done | apply wt_done | apply wg_run | refine fk ?_ ?_) <;> (simp only [go_sem, h]))) | ((first | refine mxq6 [] ?_ | refine mxq5 [] ?_ | refine mxq4 [] ?_ | refine mxq3 [] ?_ | refine mxq2 [] ?_ | refine mxq1 [] ?_ | refine mxq0 [] ?_ | fail); (simp only [go_sem])) | (first | refine cdq ?_ (hc := hm) | refine cmq ?_ (hc := hm) | refine ctq ?_ (hc := hm)); (simp only [go_sem]) | fail)
    exact hR _ (rat [] (hK := (.inr ⟨rfl, noTy, by simp [noTy, Ty.size, Ty.sizes], rfl, rfl⟩)))
  | some pq =>
    obtain ⟨p, q⟩ := pq
    rw [em] at hm
    simp only [tyO2] at hm
    refine acl_in Try.func180 rfl isfn_180 (Nat.le_of_ble_eq_true rfl) (fun R hR => ?_); rw [Try.results180] at hR; refine wg_run ?_; (simp only [Try.f180, go_sem, h])
    repeat' (first | (first | (simp only [go_sem, h]) | (((first | apply sp1 | apply sp2 | apply sp3 | apply sp4 | apply sp5 | apply sp6 | apply sp7) <;> intro hb) <;> (simp only [go_sem, hb, h])) | ((first | apply wm_done | apply wt_done | apply wg_run | refine fk ?_ ?_) <;> (simp only [go_sem, h]))) | ((first | refine mxq6 [] ?_ | refine mxq5 [] ?_ | refine mxq4 [] ?_ | refine mxq3 [] ?_ | refine mxq2 [] ?_ | refine mxq1 [] ?_ | refine mxq0 [] ?_ | fail); (simp only [go_sem])) | (first | refine cdq ?_ (hc := hm) | refine cmq ?_ (hc := hm) | refine ctq ?_ (hc := hm)); (simp only [go_sem]) | fail)
    exact hR _ (rat [] (hK := (.inl ⟨q, rfl, rfl, rfl⟩)))
theorem sRes13 (a : E) (t : T) (s : T) (ht : t.depth ≤ 4) : ACl Try.prog 180 [.agg (teC (E.asc t a).tm), .one (.sl [tyC s.ty])] [] (TyR (rAsc t s)) := by
  have hc := sConsT s t
  have h1 := sCopyT ht
  have hz := T.ty_small ht
  unfold rAsc
  simp only [E.tm]
  cases ec : s.cons t
  all_goals
    rw [ec] at hc
    refine acl_in Try.func180 rfl isfn_180 (Nat.le_of_ble_eq_true rfl) (fun R hR => ?_); rw [Try.results180] at hR; refine wg_run ?_; (simp only [Try.f180, go_sem])
    repeat' (first | (first | (((first | apply sp1 | apply sp2 | apply sp3 | apply sp4 | apply sp5 | apply sp6 | apply sp7) <;> intro hb) <;> (simp only [go_sem, hb])) | ((first | apply wm_done | apply wt_done | apply wg_run | refine fk ?_ ?_) <;> (simp only [go_sem]))) | ((first | refine mxq6 [] ?_ | refine mxq5 [] ?_ | refine mxq4 [] ?_ | refine mxq3 [] ?_ | refine mxq2 [] ?_ | refine mxq1 [] ?_ | refine mxq0 [] ?_ | fail); (simp only [go_sem])) | (first | refine cdq ?_ (hc := h1) | refine cmq ?_ (hc := h1) | refine ctq ?_ (hc := h1)); (simp only [go_sem]) | (first | refine cdq ?_ (hc := hc) | refine cmq ?_ (hc := hc) | refine ctq ?_ (hc := hc)); (simp only [go_sem]) | fail)
  · exact hR _ (rat [] (hK := (.inr ⟨rfl, t.ty, by omega, rfl, rfl⟩)))
  · exact hR _ (rat [] (hK := (.inl ⟨t, rfl, rfl, rfl⟩)))
theorem l3Type (e : E) : ∀ Γ : Ctx, e.wf = true → e.noC = true → ctxOk Γ → Γ.length + e.nodes < 50000 → ACl Try.prog 166 [.one (.sl (bdR Γ)), .agg (teC e.tm)] [] (TyR (e.rty Γ)) := by
  induction e with
  | var x =>
    intro Γ hw hn hc hl
    have h1 := l3Look Γ (by omega) hc x
    simp only [E.rty]
    simp only [E.tm]
    cases eo : look1 Γ x with
    | none =>
      rw [eo] at h1
      simp only [tyO] at h1
      refine acl_in Try.func166 rfl isfn_166 (Nat.le_of_ble_eq_true rfl) (fun R hR => ?_); rw [Try.results166] at hR; refine wg_run ?_; (simp only [Try.f166, go_sem])
      repeat' (first | (first | (((first | apply sp1 | apply sp2 | apply sp3 | apply sp4 | apply sp5 | apply sp6 | apply sp7) <;> intro hb) <;> (simp only [go_sem, hb])) | ((first | apply wm_done | apply wt_done | apply wg_run | refine fk ?_ ?_) <;> (simp only [go_sem]))) | ((first | refine mxq6 [] ?_ | refine mxq5 [] ?_ | refine mxq4 [] ?_ | refine mxq3 [] ?_ | refine mxq2 [] ?_ | refine mxq1 [] ?_ | refine mxq0 [] ?_ | fail); (simp only [go_sem])) | (first | refine cdq ?_ (hc := h1) | refine cmq ?_ (hc := h1) | refine ctq ?_ (hc := h1)); (simp only [go_sem]) | fail)
      exact hR _ (rat [] (hK := (.inr ⟨rfl, noTy, by simp [noTy, Ty.size, Ty.sizes], rfl, rfl⟩)))
    | some t =>
      rw [eo] at h1
      simp only [tyO] at h1
      refine acl_in Try.func166 rfl isfn_166 (Nat.le_of_ble_eq_true rfl) (fun R hR => ?_); rw [Try.results166] at hR; refine wg_run ?_; (simp only [Try.f166, go_sem])
      repeat' (first | (first | (((first | apply sp1 | apply sp2 | apply sp3 | apply sp4 | apply sp5 | apply sp6 | apply sp7) <;> intro hb) <;> (simp only [go_sem, hb])) | ((first | apply wm_done | apply wt_done | apply wg_run | refine fk ?_ ?_) <;> (simp only [go_sem]))) | ((first | refine mxq6 [] ?_ | refine mxq5 [] ?_ | refine mxq4 [] ?_ | refine mxq3 [] ?_ | refine mxq2 [] ?_ | refine mxq1 [] ?_ | refine mxq0 [] ?_ | fail); (simp only [go_sem])) | (first | refine cdq ?_ (hc := h1) | refine cmq ?_ (hc := h1) | refine ctq ?_ (hc := h1)); (simp only [go_sem]) | fail)
      exact hR _ (rat [] (hK := (.inl ⟨t, rfl, rfl, rfl⟩)))
  | num n =>
    intro Γ hw hn hc hl
    have hi := sIntT
    simp only [E.rty]
    simp only [E.tm]
    refine acl_in Try.func166 rfl isfn_166 (Nat.le_of_ble_eq_true rfl) (fun R hR => ?_); rw [Try.results166] at hR; refine wg_run ?_; (simp only [Try.f166, go_sem])
    repeat' (first | (first | (((first | apply sp1 | apply sp2 | apply sp3 | apply sp4 | apply sp5 | apply sp6 | apply sp7) <;> intro hb) <;> (simp only [go_sem, hb])) | ((first | apply wm_done | apply wt_done | apply wg_run | refine fk ?_ ?_) <;> (simp only [go_sem]))) | ((first | refine mxq6 [] ?_ | refine mxq5 [] ?_ | refine mxq4 [] ?_ | refine mxq3 [] ?_ | refine mxq2 [] ?_ | refine mxq1 [] ?_ | refine mxq0 [] ?_ | fail); (simp only [go_sem])) | (first | refine cdq ?_ (hc := hi) | refine cmq ?_ (hc := hi) | refine ctq ?_ (hc := hi)); (simp only [go_sem]) | fail)
    exact hR _ (rat [] (hK := (.inl ⟨.int, rfl, rfl, rfl⟩)))
  | tru | fls =>
    intro Γ hw hn hc hl
    have hi := sBoolT
    simp only [E.rty]
    simp only [E.tm, nd]
    refine acl_in Try.func166 rfl isfn_166 (Nat.le_of_ble_eq_true rfl) (fun R hR => ?_); rw [Try.results166] at hR; refine wg_run ?_; (simp only [Try.f166, go_sem])
    repeat' (first | (first | (((first | apply sp1 | apply sp2 | apply sp3 | apply sp4 | apply sp5 | apply sp6 | apply sp7) <;> intro hb) <;> (simp only [go_sem, hb])) | ((first | apply wm_done | apply wt_done | apply wg_run | refine fk ?_ ?_) <;> (simp only [go_sem]))) | ((first | refine mxq6 [] ?_ | refine mxq5 [] ?_ | refine mxq4 [] ?_ | refine mxq3 [] ?_ | refine mxq2 [] ?_ | refine mxq1 [] ?_ | refine mxq0 [] ?_ | fail); (simp only [go_sem])) | (first | refine cdq ?_ (hc := hi) | refine cmq ?_ (hc := hi) | refine ctq ?_ (hc := hi)); (simp only [go_sem]) | fail)
    exact hR _ (rat [] (hK := (.inl ⟨.bool, rfl, rfl, rfl⟩)))
  | lam x t a ih =>
    intro Γ hw hn hc hl
    simp only [E.wf, Bool.and_eq_true, decide_eq_true_eq] at hw
    simp only [E.noC] at hn
    simp only [E.nodes] at hl
    have hm := l3More Γ (by omega) x t
    have hc2 := ctxOk_snoc (x := x) hc hw.2.1
    have h1 := ih (Γ ++ [(x, t)]) hw.2.2 hn hc2 (by simp; omega)
    have hdep := a.rty_depth (Γ ++ [(x, t)])
    simp only [E.rty]
    simp only [E.tm]
    refine acl_in Try.func166 rfl isfn_166 (Nat.le_of_ble_eq_true rfl) (fun R hR => ?_); rw [Try.results166] at hR; refine wg_run ?_; (simp only [Try.f166, go_sem])
    repeat' (first | (first | (((first | apply sp1 | apply sp2 | apply sp3 | apply sp4 | apply sp5 | apply sp6 | apply sp7) <;> intro hb) <;> (simp only [go_sem, hb])) | ((first | apply wm_done | apply wt_done | apply wg_run | refine fk ?_ ?_) <;> (simp only [go_sem]))) | (first | (refine tr (.op 0 false (.op 1 false (.op 2 false (.op 3 false (.op 4 false (.op 6 false (.op 7 false (.op 8 false (.op 9 false (.fork 5 false (.fork 10 true (.op 11 false (.op 12 false (.op 13 false (.op 14 false (.op 15 true (.op 16 false .nil)))))) (.op 14 false (.op 10 true (.op 11 false (.op 12 false (.op 13 false (.op 15 true (.op 16 false .nil)))))))) (.op 14 false (.op 5 false (.op 10 true (.op 11 false (.op 12 false (.op 13 false (.op 15 true (.op 16 false .nil)))))))))))))))))) [] follows ?_; (simp only [go_sem])) | fail) | (first | refine cdq ?_ (hc := hm) | refine cmq ?_ (hc := hm) | refine ctq ?_ (hc := hm)); (simp only [go_sem]) | ((first | refine kdq [] ?_ (hc := h1) | refine kmq [] ?_ (hc := h1) | refine ktq [] ?_ (hc := h1)); rintro _ _ (⟨u, eu, rfl, rfl⟩ | ⟨eu, y, hy, rfl, rfl⟩) <;> (simp only [go_sem])) | fail)
    all_goals first | rw [eu] | (rw [eu] at hR)
    all_goals (try simp only [] at hR ⊢)
    all_goals first
      | exact hR _ (rat [] (hK := (.inr ⟨rfl, noTy, by simp [noTy, Ty.size, Ty.sizes], rfl, rfl⟩)))
      | (have hdu := hdep u hw.2.2 hc2 eu
         have h2 := l3TwoF t u hw.2.1 hdu
         have hz := (T.two_size hw.2.1 hdu).1
         simp only [twoF] at hR
         cases ed : decide ((T.fn t u).depth ≤ 4)
         all_goals
           rw [ed] at h2 hR
           simp only [] at hR
           repeat' (first | (first | (((first | apply sp1 | apply sp2 | apply sp3 | apply sp4 | apply sp5 | apply sp6 | apply sp7) <;> intro hb) <;> (simp only [go_sem, hb])) | ((first | apply wm_done | apply wt_done | apply wg_run | refine fk ?_ ?_) <;> (simp only [go_sem]))) | (first | refine cdq ?_ (hc := h2) | refine cmq ?_ (hc := h2) | refine ctq ?_ (hc := h2)); (simp only [go_sem]) | fail)
           first
             | exact hR _ (rat [] (hK := (.inr ⟨rfl, (T.fn t u).ty, hz, rfl, rfl⟩)))
             | exact hR _ (rat [] (hK := (.inl ⟨T.fn t u, rfl, rfl, rfl⟩))))
  | app a b iha ihb =>
    intro Γ hw hn hc hl
    simp only [E.wf, Bool.and_eq_true] at hw
    simp only [E.noC, Bool.and_eq_true] at hn
    simp only [E.nodes] at hl
    have h1 := iha Γ hw.1 hn.1 hc (by omega)
    have h2 := ihb Γ hw.2 hn.2 hc (by omega)
    simp only [E.rty]
    simp only [E.tm, nd]
    refine acl_in Try.func166 rfl isfn_166 (Nat.le_of_ble_eq_true rfl) (fun R hR => ?_); rw [Try.results166] at hR; refine wg_run ?_; (simp only [Try.f166, go_sem])
    repeat' (first | (first | (((first | apply sp1 | apply sp2 | apply sp3 | apply sp4 | apply sp5 | apply sp6 | apply sp7) <;> intro hb) <;> (simp only [go_sem, hb])) | ((first | apply wm_done | apply wt_done | apply wg_run | refine fk ?_ ?_) <;> (simp only [go_sem]))) | (first | (refine wl_next (wg_run ?_); (simp only [go_sem])) | refine wd_rounds 6 ?_) | ((first | refine kdq [] ?_ (hc := h1) | refine kmq [] ?_ (hc := h1) | refine ktq [] ?_ (hc := h1)); rintro _ _ (⟨s, es, rfl, rfl⟩ | ⟨es, y, hy, rfl, rfl⟩) <;> (simp only [go_sem])))
    all_goals rw [es] at hR
    all_goals simp only [] at hR
    all_goals first
      | exact hR _ (rat [] (hK := (.inr ⟨rfl, noTy, by simp [noTy, Ty.size, Ty.sizes], rfl, rfl⟩)))
      | skip
    repeat' (first | (first | (((first | apply sp1 | apply sp2 | apply sp3 | apply sp4 | apply sp5 | apply sp6 | apply sp7) <;> intro hb) <;> (simp only [go_sem, hb])) | ((first | apply wm_done | apply wt_done | apply wg_run | refine fk ?_ ?_) <;> (simp only [go_sem]))) | (first | (refine wl_next (wg_run ?_); (simp only [go_sem])) | refine wd_rounds 6 ?_) | ((first | refine kdq [] ?_ (hc := h2) | refine kmq [] ?_ (hc := h2) | refine ktq [] ?_ (hc := h2)); rintro _ _ (⟨u, eu, rfl, rfl⟩ | ⟨eu, y, hy, rfl, rfl⟩) <;> (simp only [go_sem])))
    all_goals rw [eu] at hR
    all_goals simp only [] at hR
    all_goals first
      | exact hR _ (rat [] (hK := (.inr ⟨rfl, noTy, by simp [noTy, Ty.size, Ty.sizes], rfl, rfl⟩)))
      | skip
    have h3 := sRes6 (Tm.mk 6 ByteArray.empty 0 noTy noTy 0 [a.tm, b.tm]) rfl s u (a.rty_depth _ _ hw.1 hc es) (b.rty_depth _ _ hw.2 hc eu)
    repeat' (first | (first | (((first | apply sp1 | apply sp2 | apply sp3 | apply sp4 | apply sp5 | apply sp6 | apply sp7) <;> intro hb) <;> (simp only [go_sem, hb])) | ((first | apply wm_done | apply wt_done | apply wg_run | refine fk ?_ ?_) <;> (simp only [go_sem]))) | (first | (refine wl_next (wg_run ?_); (simp only [go_sem])) | refine wd_rounds 6 ?_) | ((first | refine kdq [] ?_ (hc := h3) | refine kmq [] ?_ (hc := h3) | refine ktq [] ?_ (hc := h3)); rintro _ _ (⟨v, ev, rfl, rfl⟩ | ⟨ev, y, hy, rfl, rfl⟩) <;> (simp only [go_sem])))
    · exact hR _ (rat [] (hK := (.inl ⟨v, ev, rfl, rfl⟩)))
    · exact hR _ (rat [] (hK := (.inr ⟨ev, y, hy, rfl, rfl⟩)))
  | add a b iha ihb =>
    intro Γ hw hn hc hl
    simp only [E.wf, Bool.and_eq_true] at hw
    simp only [E.noC, Bool.and_eq_true] at hn
    simp only [E.nodes] at hl
    have h1 := iha Γ hw.1 hn.1 hc (by omega)
    have h2 := ihb Γ hw.2 hn.2 hc (by omega)
    simp only [E.rty]
    simp only [E.tm, nd]
    refine acl_in Try.func166 rfl isfn_166 (Nat.le_of_ble_eq_true rfl) (fun R hR => ?_); rw [Try.results166] at hR; refine wg_run ?_; (simp only [Try.f166, go_sem])
    repeat' (first | (first | (((first | apply sp1 | apply sp2 | apply sp3 | apply sp4 | apply sp5 | apply sp6 | apply sp7) <;> intro hb) <;> (simp only [go_sem, hb])) | ((first | apply wm_done | apply wt_done | apply wg_run | refine fk ?_ ?_) <;> (simp only [go_sem]))) | (first | (refine wl_next (wg_run ?_); (simp only [go_sem])) | refine wd_rounds 6 ?_) | ((first | refine kdq [] ?_ (hc := h1) | refine kmq [] ?_ (hc := h1) | refine ktq [] ?_ (hc := h1)); rintro _ _ (⟨s, es, rfl, rfl⟩ | ⟨es, y, hy, rfl, rfl⟩) <;> (simp only [go_sem])))
    all_goals rw [es] at hR
    all_goals simp only [] at hR
    all_goals first
      | exact hR _ (rat [] (hK := (.inr ⟨rfl, noTy, by simp [noTy, Ty.size, Ty.sizes], rfl, rfl⟩)))
      | skip
    repeat' (first | (first | (((first | apply sp1 | apply sp2 | apply sp3 | apply sp4 | apply sp5 | apply sp6 | apply sp7) <;> intro hb) <;> (simp only [go_sem, hb])) | ((first | apply wm_done | apply wt_done | apply wg_run | refine fk ?_ ?_) <;> (simp only [go_sem]))) | (first | (refine wl_next (wg_run ?_); (simp only [go_sem])) | refine wd_rounds 6 ?_) | ((first | refine kdq [] ?_ (hc := h2) | refine kmq [] ?_ (hc := h2) | refine ktq [] ?_ (hc := h2)); rintro _ _ (⟨u, eu, rfl, rfl⟩ | ⟨eu, y, hy, rfl, rfl⟩) <;> (simp only [go_sem])))
    all_goals rw [eu] at hR
    all_goals simp only [] at hR
    all_goals first
      | exact hR _ (rat [] (hK := (.inr ⟨rfl, noTy, by simp [noTy, Ty.size, Ty.sizes], rfl, rfl⟩)))
      | skip
    have hr := sRes7 (Tm.mk 7 ByteArray.empty 0 noTy noTy 0 [a.tm, b.tm]) rfl s u 
    repeat' (first | (first | (((first | apply sp1 | apply sp2 | apply sp3 | apply sp4 | apply sp5 | apply sp6 | apply sp7) <;> intro hb) <;> (simp only [go_sem, hb])) | ((first | apply wm_done | apply wt_done | apply wg_run | refine fk ?_ ?_) <;> (simp only [go_sem]))) | (first | (refine wl_next (wg_run ?_); (simp only [go_sem])) | refine wd_rounds 6 ?_) | ((first | refine kdq [] ?_ (hc := hr) | refine kmq [] ?_ (hc := hr) | refine ktq [] ?_ (hc := hr)); rintro _ _ (⟨v, ev, rfl, rfl⟩ | ⟨ev, y, hy, rfl, rfl⟩) <;> (simp only [go_sem])))
    · exact hR _ (rat [] (hK := (.inl ⟨v, ev, rfl, rfl⟩)))
    · exact hR _ (rat [] (hK := (.inr ⟨ev, y, hy, rfl, rfl⟩)))
  | less a b iha ihb =>
    intro Γ hw hn hc hl
    simp only [E.wf, Bool.and_eq_true] at hw
    simp only [E.noC, Bool.and_eq_true] at hn
    simp only [E.nodes] at hl
    have h1 := iha Γ hw.1 hn.1 hc (by omega)
    have h2 := ihb Γ hw.2 hn.2 hc (by omega)
    simp only [E.rty]
    simp only [E.tm, nd]
    refine acl_in Try.func166 rfl isfn_166 (Nat.le_of_ble_eq_true rfl) (fun R hR => ?_); rw [Try.results166] at hR; refine wg_run ?_; (simp only [Try.f166, go_sem])
    repeat' (first | (first | (((first | apply sp1 | apply sp2 | apply sp3 | apply sp4 | apply sp5 | apply sp6 | apply sp7) <;> intro hb) <;> (simp only [go_sem, hb])) | ((first | apply wm_done | apply wt_done | apply wg_run | refine fk ?_ ?_) <;> (simp only [go_sem]))) | (first | (refine wl_next (wg_run ?_); (simp only [go_sem])) | refine wd_rounds 6 ?_) | ((first | refine kdq [] ?_ (hc := h1) | refine kmq [] ?_ (hc := h1) | refine ktq [] ?_ (hc := h1)); rintro _ _ (⟨s, es, rfl, rfl⟩ | ⟨es, y, hy, rfl, rfl⟩) <;> (simp only [go_sem])))
    all_goals rw [es] at hR
    all_goals simp only [] at hR
    all_goals first
      | exact hR _ (rat [] (hK := (.inr ⟨rfl, noTy, by simp [noTy, Ty.size, Ty.sizes], rfl, rfl⟩)))
      | skip
    repeat' (first | (first | (((first | apply sp1 | apply sp2 | apply sp3 | apply sp4 | apply sp5 | apply sp6 | apply sp7) <;> intro hb) <;> (simp only [go_sem, hb])) | ((first | apply wm_done | apply wt_done | apply wg_run | refine fk ?_ ?_) <;> (simp only [go_sem]))) | (first | (refine wl_next (wg_run ?_); (simp only [go_sem])) | refine wd_rounds 6 ?_) | ((first | refine kdq [] ?_ (hc := h2) | refine kmq [] ?_ (hc := h2) | refine ktq [] ?_ (hc := h2)); rintro _ _ (⟨u, eu, rfl, rfl⟩ | ⟨eu, y, hy, rfl, rfl⟩) <;> (simp only [go_sem])))
    all_goals rw [eu] at hR
    all_goals simp only [] at hR
    all_goals first
      | exact hR _ (rat [] (hK := (.inr ⟨rfl, noTy, by simp [noTy, Ty.size, Ty.sizes], rfl, rfl⟩)))
      | skip
    have hr := sRes8 (Tm.mk 8 ByteArray.empty 0 noTy noTy 0 [a.tm, b.tm]) rfl s u 
    repeat' (first | (first | (((first | apply sp1 | apply sp2 | apply sp3 | apply sp4 | apply sp5 | apply sp6 | apply sp7) <;> intro hb) <;> (simp only [go_sem, hb])) | ((first | apply wm_done | apply wt_done | apply wg_run | refine fk ?_ ?_) <;> (simp only [go_sem]))) | (first | (refine wl_next (wg_run ?_); (simp only [go_sem])) | refine wd_rounds 6 ?_) | ((first | refine kdq [] ?_ (hc := hr) | refine kmq [] ?_ (hc := hr) | refine ktq [] ?_ (hc := hr)); rintro _ _ (⟨v, ev, rfl, rfl⟩ | ⟨ev, y, hy, rfl, rfl⟩) <;> (simp only [go_sem])))
    · exact hR _ (rat [] (hK := (.inl ⟨v, ev, rfl, rfl⟩)))
    · exact hR _ (rat [] (hK := (.inr ⟨ev, y, hy, rfl, rfl⟩)))
  | ite a b c iha ihb ihc =>
    intro Γ hw hn hc hl
    simp only [E.wf, Bool.and_eq_true] at hw
    simp only [E.noC, Bool.and_eq_true] at hn
    simp only [E.nodes] at hl
    have h1 := iha Γ hw.1 hn.1 hc (by omega)
    have h2 := ihb Γ hw.2.1 hn.2.1 hc (by omega)
    have h3 := ihc Γ hw.2.2 hn.2.2 hc (by omega)
    simp only [E.rty]
    simp only [E.tm, nd]
    refine acl_in Try.func166 rfl isfn_166 (Nat.le_of_ble_eq_true rfl) (fun R hR => ?_); rw [Try.results166] at hR; refine wg_run ?_; (simp only [Try.f166, go_sem])
    repeat' (first | (first | (((first | apply sp1 | apply sp2 | apply sp3 | apply sp4 | apply sp5 | apply sp6 | apply sp7) <;> intro hb) <;> (simp only [go_sem, hb])) | ((first | apply wm_done | apply wt_done | apply wg_run | refine fk ?_ ?_) <;> (simp only [go_sem]))) | (first | (refine wl_next (wg_run ?_); (simp only [go_sem])) | refine wd_rounds 6 ?_) | ((first | refine kdq [] ?_ (hc := h1) | refine kmq [] ?_ (hc := h1) | refine ktq [] ?_ (hc := h1)); rintro _ _ (⟨s, es, rfl, rfl⟩ | ⟨es, y, hy, rfl, rfl⟩) <;> (simp only [go_sem])))
    all_goals rw [es] at hR
    all_goals simp only [] at hR
    all_goals first
      | exact hR _ (rat [] (hK := (.inr ⟨rfl, noTy, by simp [noTy, Ty.size, Ty.sizes], rfl, rfl⟩)))
      | skip
    repeat' (first | (first | (((first | apply sp1 | apply sp2 | apply sp3 | apply sp4 | apply sp5 | apply sp6 | apply sp7) <;> intro hb) <;> (simp only [go_sem, hb])) | ((first | apply wm_done | apply wt_done | apply wg_run | refine fk ?_ ?_) <;> (simp only [go_sem]))) | (first | (refine wl_next (wg_run ?_); (simp only [go_sem])) | refine wd_rounds 6 ?_) | ((first | refine kdq [] ?_ (hc := h2) | refine kmq [] ?_ (hc := h2) | refine ktq [] ?_ (hc := h2)); rintro _ _ (⟨u, eu, rfl, rfl⟩ | ⟨eu, y, hy, rfl, rfl⟩) <;> (simp only [go_sem])))
    all_goals rw [eu] at hR
    all_goals simp only [] at hR
    all_goals first
      | exact hR _ (rat [] (hK := (.inr ⟨rfl, noTy, by simp [noTy, Ty.size, Ty.sizes], rfl, rfl⟩)))
      | skip
    repeat' (first | (first | (((first | apply sp1 | apply sp2 | apply sp3 | apply sp4 | apply sp5 | apply sp6 | apply sp7) <;> intro hb) <;> (simp only [go_sem, hb])) | ((first | apply wm_done | apply wt_done | apply wg_run | refine fk ?_ ?_) <;> (simp only [go_sem]))) | (first | (refine wl_next (wg_run ?_); (simp only [go_sem])) | refine wd_rounds 6 ?_) | ((first | refine kdq [] ?_ (hc := h3) | refine kmq [] ?_ (hc := h3) | refine ktq [] ?_ (hc := h3)); rintro _ _ (⟨v, ev, rfl, rfl⟩ | ⟨ev, y, hy, rfl, rfl⟩) <;> (simp only [go_sem])))
    all_goals rw [ev] at hR
    all_goals simp only [] at hR
    all_goals first
      | exact hR _ (rat [] (hK := (.inr ⟨rfl, noTy, by simp [noTy, Ty.size, Ty.sizes], rfl, rfl⟩)))
      | skip
    have hr := sRes9 (Tm.mk 9 ByteArray.empty 0 noTy noTy 0 [a.tm, b.tm, c.tm]) rfl s u v (b.rty_depth _ _ hw.2.1 hc eu) (c.rty_depth _ _ hw.2.2 hc ev)
    repeat' (first | (first | (((first | apply sp1 | apply sp2 | apply sp3 | apply sp4 | apply sp5 | apply sp6 | apply sp7) <;> intro hb) <;> (simp only [go_sem, hb])) | ((first | apply wm_done | apply wt_done | apply wg_run | refine fk ?_ ?_) <;> (simp only [go_sem]))) | (first | (refine wl_next (wg_run ?_); (simp only [go_sem])) | refine wd_rounds 6 ?_) | ((first | refine kdq [] ?_ (hc := hr) | refine kmq [] ?_ (hc := hr) | refine ktq [] ?_ (hc := hr)); rintro _ _ (⟨v, ev, rfl, rfl⟩ | ⟨ev, y, hy, rfl, rfl⟩) <;> (simp only [go_sem])))
    · exact hR _ (rat [] (hK := (.inl ⟨v, ev, rfl, rfl⟩)))
    · exact hR _ (rat [] (hK := (.inr ⟨ev, y, hy, rfl, rfl⟩)))
  | pair a b iha ihb =>
    intro Γ hw hn hc hl
    simp only [E.wf, Bool.and_eq_true] at hw
    simp only [E.noC, Bool.and_eq_true] at hn
    simp only [E.nodes] at hl
    have h1 := iha Γ hw.1 hn.1 hc (by omega)
    have h2 := ihb Γ hw.2 hn.2 hc (by omega)
    simp only [E.rty]
    simp only [E.tm, nd]
    refine acl_in Try.func166 rfl isfn_166 (Nat.le_of_ble_eq_true rfl) (fun R hR => ?_); rw [Try.results166] at hR; refine wg_run ?_; (simp only [Try.f166, go_sem])
    repeat' (first | (first | (((first | apply sp1 | apply sp2 | apply sp3 | apply sp4 | apply sp5 | apply sp6 | apply sp7) <;> intro hb) <;> (simp only [go_sem, hb])) | ((first | apply wm_done | apply wt_done | apply wg_run | refine fk ?_ ?_) <;> (simp only [go_sem]))) | (first | (refine wl_next (wg_run ?_); (simp only [go_sem])) | refine wd_rounds 6 ?_) | ((first | refine kdq [] ?_ (hc := h1) | refine kmq [] ?_ (hc := h1) | refine ktq [] ?_ (hc := h1)); rintro _ _ (⟨s, es, rfl, rfl⟩ | ⟨es, y, hy, rfl, rfl⟩) <;> (simp only [go_sem])))
    all_goals rw [es] at hR
    all_goals simp only [] at hR
    all_goals first
      | exact hR _ (rat [] (hK := (.inr ⟨rfl, noTy, by simp [noTy, Ty.size, Ty.sizes], rfl, rfl⟩)))
      | skip
    repeat' (first | (first | (((first | apply sp1 | apply sp2 | apply sp3 | apply sp4 | apply sp5 | apply sp6 | apply sp7) <;> intro hb) <;> (simp only [go_sem, hb])) | ((first | apply wm_done | apply wt_done | apply wg_run | refine fk ?_ ?_) <;> (simp only [go_sem]))) | (first | (refine wl_next (wg_run ?_); (simp only [go_sem])) | refine wd_rounds 6 ?_) | ((first | refine kdq [] ?_ (hc := h2) | refine kmq [] ?_ (hc := h2) | refine ktq [] ?_ (hc := h2)); rintro _ _ (⟨u, eu, rfl, rfl⟩ | ⟨eu, y, hy, rfl, rfl⟩) <;> (simp only [go_sem])))
    all_goals rw [eu] at hR
    all_goals simp only [] at hR
    all_goals first
      | exact hR _ (rat [] (hK := (.inr ⟨rfl, noTy, by simp [noTy, Ty.size, Ty.sizes], rfl, rfl⟩)))
      | skip
    have hr := sRes10 (Tm.mk 10 ByteArray.empty 0 noTy noTy 0 [a.tm, b.tm]) rfl s u (a.rty_depth _ _ hw.1 hc es) (b.rty_depth _ _ hw.2 hc eu)
    repeat' (first | (first | (((first | apply sp1 | apply sp2 | apply sp3 | apply sp4 | apply sp5 | apply sp6 | apply sp7) <;> intro hb) <;> (simp only [go_sem, hb])) | ((first | apply wm_done | apply wt_done | apply wg_run | refine fk ?_ ?_) <;> (simp only [go_sem]))) | (first | (refine wl_next (wg_run ?_); (simp only [go_sem])) | refine wd_rounds 6 ?_) | ((first | refine kdq [] ?_ (hc := hr) | refine kmq [] ?_ (hc := hr) | refine ktq [] ?_ (hc := hr)); rintro _ _ (⟨v, ev, rfl, rfl⟩ | ⟨ev, y, hy, rfl, rfl⟩) <;> (simp only [go_sem])))
    · exact hR _ (rat [] (hK := (.inl ⟨v, ev, rfl, rfl⟩)))
    · exact hR _ (rat [] (hK := (.inr ⟨ev, y, hy, rfl, rfl⟩)))
  | fst a iha =>
    intro Γ hw hn hc hl
    simp only [E.wf] at hw
    simp only [E.noC] at hn
    simp only [E.nodes] at hl
    have h1 := iha Γ hw hn hc (by omega)
    simp only [E.rty]
    simp only [E.tm, nd]
    refine acl_in Try.func166 rfl isfn_166 (Nat.le_of_ble_eq_true rfl) (fun R hR => ?_); rw [Try.results166] at hR; refine wg_run ?_; (simp only [Try.f166, go_sem])
    repeat' (first | (first | (((first | apply sp1 | apply sp2 | apply sp3 | apply sp4 | apply sp5 | apply sp6 | apply sp7) <;> intro hb) <;> (simp only [go_sem, hb])) | ((first | apply wm_done | apply wt_done | apply wg_run | refine fk ?_ ?_) <;> (simp only [go_sem]))) | (first | (refine wl_next (wg_run ?_); (simp only [go_sem])) | refine wd_rounds 6 ?_) | ((first | refine kdq [] ?_ (hc := h1) | refine kmq [] ?_ (hc := h1) | refine ktq [] ?_ (hc := h1)); rintro _ _ (⟨s, es, rfl, rfl⟩ | ⟨es, y, hy, rfl, rfl⟩) <;> (simp only [go_sem])))
    all_goals rw [es] at hR
    all_goals simp only [] at hR
    all_goals first
      | exact hR _ (rat [] (hK := (.inr ⟨rfl, noTy, by simp [noTy, Ty.size, Ty.sizes], rfl, rfl⟩)))
      | skip
    have hr := sRes11 (Tm.mk 11 ByteArray.empty 0 noTy noTy 0 [a.tm]) rfl s (a.rty_depth _ _ hw hc es)
    repeat' (first | (first | (((first | apply sp1 | apply sp2 | apply sp3 | apply sp4 | apply sp5 | apply sp6 | apply sp7) <;> intro hb) <;> (simp only [go_sem, hb])) | ((first | apply wm_done | apply wt_done | apply wg_run | refine fk ?_ ?_) <;> (simp only [go_sem]))) | (first | (refine wl_next (wg_run ?_); (simp only [go_sem])) | refine wd_rounds 6 ?_) | ((first | refine kdq [] ?_ (hc := hr) | refine kmq [] ?_ (hc := hr) | refine ktq [] ?_ (hc := hr)); rintro _ _ (⟨v, ev, rfl, rfl⟩ | ⟨ev, y, hy, rfl, rfl⟩) <;> (simp only [go_sem])))
    · exact hR _ (rat [] (hK := (.inl ⟨v, ev, rfl, rfl⟩)))
    · exact hR _ (rat [] (hK := (.inr ⟨ev, y, hy, rfl, rfl⟩)))
  | snd a iha =>
    intro Γ hw hn hc hl
    simp only [E.wf] at hw
    simp only [E.noC] at hn
    simp only [E.nodes] at hl
    have h1 := iha Γ hw hn hc (by omega)
    simp only [E.rty]
    simp only [E.tm, nd]
    refine acl_in Try.func166 rfl isfn_166 (Nat.le_of_ble_eq_true rfl) (fun R hR => ?_); rw [Try.results166] at hR; refine wg_run ?_; (simp only [Try.f166, go_sem])
    repeat' (first | (first | (((first | apply sp1 | apply sp2 | apply sp3 | apply sp4 | apply sp5 | apply sp6 | apply sp7) <;> intro hb) <;> (simp only [go_sem, hb])) | ((first | apply wm_done | apply wt_done | apply wg_run | refine fk ?_ ?_) <;> (simp only [go_sem]))) | (first | (refine wl_next (wg_run ?_); (simp only [go_sem])) | refine wd_rounds 6 ?_) | ((first | refine kdq [] ?_ (hc := h1) | refine kmq [] ?_ (hc := h1) | refine ktq [] ?_ (hc := h1)); rintro _ _ (⟨s, es, rfl, rfl⟩ | ⟨es, y, hy, rfl, rfl⟩) <;> (simp only [go_sem])))
    all_goals rw [es] at hR
    all_goals simp only [] at hR
    all_goals first
      | exact hR _ (rat [] (hK := (.inr ⟨rfl, noTy, by simp [noTy, Ty.size, Ty.sizes], rfl, rfl⟩)))
      | skip
    have hr := sRes12 (Tm.mk 12 ByteArray.empty 0 noTy noTy 0 [a.tm]) rfl s (a.rty_depth _ _ hw hc es)
    repeat' (first | (first | (((first | apply sp1 | apply sp2 | apply sp3 | apply sp4 | apply sp5 | apply sp6 | apply sp7) <;> intro hb) <;> (simp only [go_sem, hb])) | ((first | apply wm_done | apply wt_done | apply wg_run | refine fk ?_ ?_) <;> (simp only [go_sem]))) | (first | (refine wl_next (wg_run ?_); (simp only [go_sem])) | refine wd_rounds 6 ?_) | ((first | refine kdq [] ?_ (hc := hr) | refine kmq [] ?_ (hc := hr) | refine ktq [] ?_ (hc := hr)); rintro _ _ (⟨v, ev, rfl, rfl⟩ | ⟨ev, y, hy, rfl, rfl⟩) <;> (simp only [go_sem])))
    · exact hR _ (rat [] (hK := (.inl ⟨v, ev, rfl, rfl⟩)))
    · exact hR _ (rat [] (hK := (.inr ⟨ev, y, hy, rfl, rfl⟩)))
  | asc t a iha =>
    intro Γ hw hn hc hl
    simp only [E.wf, Bool.and_eq_true, decide_eq_true_eq] at hw
    simp only [E.noC] at hn
    simp only [E.nodes] at hl
    have h1 := iha Γ hw.2 hn hc (by omega)
    simp only [E.rty]
    simp only [E.tm]
    refine acl_in Try.func166 rfl isfn_166 (Nat.le_of_ble_eq_true rfl) (fun R hR => ?_); rw [Try.results166] at hR; refine wg_run ?_; (simp only [Try.f166, go_sem])
    repeat' (first | (first | (((first | apply sp1 | apply sp2 | apply sp3 | apply sp4 | apply sp5 | apply sp6 | apply sp7) <;> intro hb) <;> (simp only [go_sem, hb])) | ((first | apply wm_done | apply wt_done | apply wg_run | refine fk ?_ ?_) <;> (simp only [go_sem]))) | (first | (refine wl_next (wg_run ?_); (simp only [go_sem])) | refine wd_rounds 6 ?_) | ((first | refine kdq [] ?_ (hc := h1) | refine kmq [] ?_ (hc := h1) | refine ktq [] ?_ (hc := h1)); rintro _ _ (⟨s, es, rfl, rfl⟩ | ⟨es, y, hy, rfl, rfl⟩) <;> (simp only [go_sem])))
    all_goals rw [es] at hR
    all_goals simp only [] at hR
    all_goals first
      | exact hR _ (rat [] (hK := (.inr ⟨rfl, noTy, by simp [noTy, Ty.size, Ty.sizes], rfl, rfl⟩)))
      | skip
    have hr := sRes13 a t s hw.1
    simp only [E.tm] at hr
    repeat' (first | (first | (((first | apply sp1 | apply sp2 | apply sp3 | apply sp4 | apply sp5 | apply sp6 | apply sp7) <;> intro hb) <;> (simp only [go_sem, hb])) | ((first | apply wm_done | apply wt_done | apply wg_run | refine fk ?_ ?_) <;> (simp only [go_sem]))) | (first | (refine wl_next (wg_run ?_); (simp only [go_sem])) | refine wd_rounds 6 ?_) | ((first | refine kdq [] ?_ (hc := hr) | refine kmq [] ?_ (hc := hr) | refine ktq [] ?_ (hc := hr)); rintro _ _ (⟨v, ev, rfl, rfl⟩ | ⟨ev, y, hy, rfl, rfl⟩) <;> (simp only [go_sem])))
    · exact hR _ (rat [] (hK := (.inl ⟨v, ev, rfl, rfl⟩)))
    · exact hR _ (rat [] (hK := (.inr ⟨ev, y, hy, rfl, rfl⟩)))
  | cast s t l a iha =>
    intro Γ hw hn hc hl
    simp [E.noC] at hn
end Go.Proofs.Ytnaebafafhamjaa
/- The reference's draws of typed terms: less precise types; the end of a draw. On shadows. -/
namespace Go.Proofs.Ytnaebafafhamjaa
open Go.RowKit Go.Proofs.Sh Go.Proofs.Grad
set_option maxRecDepth 100000
set_option maxHeartbeats 16000000
theorem l1BlurS (bs : List Int) (hB : Bs bs) (x : T) : ∀ p, p + 30 * x.size < 999990000 → ACl Try.prog 88 [.one (.ptr 2 0 0 0), .agg (tyC x.ty)] [(⟨2, 83, .mut, [[.sl (byR bs), .sc (.int .i64 ((p : Nat) : Int))]]⟩ : Blk)] (DrawsT bs p x.size x.depth) := by
  induction x with
  | any | int | bool =>
    intro p hp
    have hk := pick bs hB p (by simp only [T.size] at hp; omega) 4 (by omega) (by omega)
    refine acl_in Try.func88 rfl isfn_88 (Nat.le_of_ble_eq_true rfl) (fun R hR => ?_); rw [Try.results88] at hR; refine wg_run ?_; (simp only [Try.f88, go_sem])
    ((first | refine kdq [0] ?_ (hc := hk) | refine kmq [0] ?_ (hc := hk) | refine ktq [0] ?_ (hc := hk)); rintro _ _ ⟨z, rfl, hz, hz1, rfl⟩; (simp only [go_sem]))
    repeat' (first | (first | (((first | apply sp1 | apply sp2 | apply sp3 | apply sp4 | apply sp5 | apply sp6 | apply sp7) <;> intro hb) <;> (simp only [go_sem, hb])) | ((first | apply wm_done | apply wt_done | apply wg_run | refine fk ?_ ?_) <;> (simp only [go_sem]))) | (first | refine cdq ?_ (hc := l1Any) | refine cmq ?_ (hc := l1Any) | refine ctq ?_ (hc := l1Any)); (simp only [go_sem]) | (first | (refine wl_next (wg_run ?_); (simp only [go_sem])) | refine wd_rounds 6 ?_))
    all_goals first
      | exact hR _ (rat [] (hK := ⟨.any, p + 1, rfl, by simp only [T.depth]; omega, by simp only [T.size]; omega, rfl⟩))
      | exact hR _ (rat [] (hK := ⟨.int, p + 1, rfl, by simp only [T.depth]; omega, by simp only [T.size]; omega, rfl⟩))
      | exact hR _ (rat [] (hK := ⟨.bool, p + 1, rfl, by simp only [T.depth]; omega, by simp only [T.size]; omega, rfl⟩))
  | fn a b iha ihb =>
    intro p hp
    simp only [T.size] at hp
    have hk := pick bs hB p (by omega) 4 (by omega) (by omega)
    refine acl_in Try.func88 rfl isfn_88 (Nat.le_of_ble_eq_true rfl) (fun R hR => ?_); rw [Try.results88] at hR; refine wg_run ?_; (simp only [Try.f88, go_sem])
    ((first | refine kdq [0] ?_ (hc := hk) | refine kmq [0] ?_ (hc := hk) | refine ktq [0] ?_ (hc := hk)); rintro _ _ ⟨z, rfl, hz, hz1, rfl⟩; (simp only [go_sem]))
    repeat' (first | (first | (((first | apply sp1 | apply sp2 | apply sp3 | apply sp4 | apply sp5 | apply sp6 | apply sp7) <;> intro hb) <;> (simp only [go_sem, hb])) | ((first | apply wm_done | apply wt_done | apply wg_run | refine fk ?_ ?_) <;> (simp only [go_sem]))) | (first | refine cdq ?_ (hc := l1Any) | refine cmq ?_ (hc := l1Any) | refine ctq ?_ (hc := l1Any)); (simp only [go_sem]) | (first | (refine wl_next (wg_run ?_); (simp only [go_sem])) | refine wd_rounds 6 ?_) | ((first | refine mxq6 [0] ?_ | refine mxq5 [0] ?_ | refine mxq4 [0] ?_ | refine mxq3 [0] ?_ | refine mxq2 [0] ?_ | refine mxq1 [0] ?_ | refine mxq0 [0] ?_ | fail); (simp only [go_sem])))
    · exact hR _ (rat [] (hK := ⟨.any, p + 1, rfl, by simp only [T.depth]; omega, by simp only [T.size]; omega, rfl⟩))
    · ((first | refine kdq [0] ?_ (hc := iha _ (by omega)) | refine kmq [0] ?_ (hc := iha _ (by omega)) | refine ktq [0] ?_ (hc := iha _ (by omega))); rintro _ _ ⟨x1, p1, rfl, hx1, hp1, rfl⟩; (simp only [go_sem]))
      repeat' (first | (first | (((first | apply sp1 | apply sp2 | apply sp3 | apply sp4 | apply sp5 | apply sp6 | apply sp7) <;> intro hb) <;> (simp only [go_sem, hb])) | ((first | apply wm_done | apply wt_done | apply wg_run | refine fk ?_ ?_) <;> (simp only [go_sem]))) | (first | (refine wl_next (wg_run ?_); (simp only [go_sem])) | refine wd_rounds 6 ?_) | ((first | refine mxq6 [0] ?_ | refine mxq5 [0] ?_ | refine mxq4 [0] ?_ | refine mxq3 [0] ?_ | refine mxq2 [0] ?_ | refine mxq1 [0] ?_ | refine mxq0 [0] ?_ | fail); (simp only [go_sem])))
      ((first | refine kdq [0] ?_ (hc := ihb _ (by omega)) | refine kmq [0] ?_ (hc := ihb _ (by omega)) | refine ktq [0] ?_ (hc := ihb _ (by omega))); rintro _ _ ⟨x2, p2, rfl, hx2, hp2, rfl⟩; (simp only [go_sem]))
      repeat' (first | (first | (((first | apply sp1 | apply sp2 | apply sp3 | apply sp4 | apply sp5 | apply sp6 | apply sp7) <;> intro hb) <;> (simp only [go_sem, hb])) | ((first | apply wm_done | apply wt_done | apply wg_run | refine fk ?_ ?_) <;> (simp only [go_sem]))) | (first | (refine wl_next (wg_run ?_); (simp only [go_sem])) | refine wd_rounds 6 ?_) | ((first | refine mxq6 [0] ?_ | refine mxq5 [0] ?_ | refine mxq4 [0] ?_ | refine mxq3 [0] ?_ | refine mxq2 [0] ?_ | refine mxq1 [0] ?_ | refine mxq0 [0] ?_ | fail); (simp only [go_sem])))
      exact hR _ (rat [] (hK := ⟨.fn x1 x2, p2, rfl, by simp only [T.depth]; omega, by simp only [T.size]; omega, rfl⟩))
  | pr a b iha ihb =>
    intro p hp
    simp only [T.size] at hp
    have hk := pick bs hB p (by omega) 4 (by omega) (by omega)
    refine acl_in Try.func88 rfl isfn_88 (Nat.le_of_ble_eq_true rfl) (fun R hR => ?_); rw [Try.results88] at hR; refine wg_run ?_; (simp only [Try.f88, go_sem])
    ((first | refine kdq [0] ?_ (hc := hk) | refine kmq [0] ?_ (hc := hk) | refine ktq [0] ?_ (hc := hk)); rintro _ _ ⟨z, rfl, hz, hz1, rfl⟩; (simp only [go_sem]))
    repeat' (first | (first | (((first | apply sp1 | apply sp2 | apply sp3 | apply sp4 | apply sp5 | apply sp6 | apply sp7) <;> intro hb) <;> (simp only [go_sem, hb])) | ((first | apply wm_done | apply wt_done | apply wg_run | refine fk ?_ ?_) <;> (simp only [go_sem]))) | (first | refine cdq ?_ (hc := l1Any) | refine cmq ?_ (hc := l1Any) | refine ctq ?_ (hc := l1Any)); (simp only [go_sem]) | (first | (refine wl_next (wg_run ?_); (simp only [go_sem])) | refine wd_rounds 6 ?_) | ((first | refine mxq6 [0] ?_ | refine mxq5 [0] ?_ | refine mxq4 [0] ?_ | refine mxq3 [0] ?_ | refine mxq2 [0] ?_ | refine mxq1 [0] ?_ | refine mxq0 [0] ?_ | fail); (simp only [go_sem])))
    · exact hR _ (rat [] (hK := ⟨.any, p + 1, rfl, by simp only [T.depth]; omega, by simp only [T.size]; omega, rfl⟩))
    · ((first | refine kdq [0] ?_ (hc := iha _ (by omega)) | refine kmq [0] ?_ (hc := iha _ (by omega)) | refine ktq [0] ?_ (hc := iha _ (by omega))); rintro _ _ ⟨x1, p1, rfl, hx1, hp1, rfl⟩; (simp only [go_sem]))
      repeat' (first | (first | (((first | apply sp1 | apply sp2 | apply sp3 | apply sp4 | apply sp5 | apply sp6 | apply sp7) <;> intro hb) <;> (simp only [go_sem, hb])) | ((first | apply wm_done | apply wt_done | apply wg_run | refine fk ?_ ?_) <;> (simp only [go_sem]))) | (first | (refine wl_next (wg_run ?_); (simp only [go_sem])) | refine wd_rounds 6 ?_) | ((first | refine mxq6 [0] ?_ | refine mxq5 [0] ?_ | refine mxq4 [0] ?_ | refine mxq3 [0] ?_ | refine mxq2 [0] ?_ | refine mxq1 [0] ?_ | refine mxq0 [0] ?_ | fail); (simp only [go_sem])))
      ((first | refine kdq [0] ?_ (hc := ihb _ (by omega)) | refine kmq [0] ?_ (hc := ihb _ (by omega)) | refine ktq [0] ?_ (hc := ihb _ (by omega))); rintro _ _ ⟨x2, p2, rfl, hx2, hp2, rfl⟩; (simp only [go_sem]))
      repeat' (first | (first | (((first | apply sp1 | apply sp2 | apply sp3 | apply sp4 | apply sp5 | apply sp6 | apply sp7) <;> intro hb) <;> (simp only [go_sem, hb])) | ((first | apply wm_done | apply wt_done | apply wg_run | refine fk ?_ ?_) <;> (simp only [go_sem]))) | (first | (refine wl_next (wg_run ?_); (simp only [go_sem])) | refine wd_rounds 6 ?_) | ((first | refine mxq6 [0] ?_ | refine mxq5 [0] ?_ | refine mxq4 [0] ?_ | refine mxq3 [0] ?_ | refine mxq2 [0] ?_ | refine mxq1 [0] ?_ | refine mxq0 [0] ?_ | fail); (simp only [go_sem])))
      exact hR _ (rat [] (hK := ⟨.pr x1 x2, p2, rfl, by simp only [T.depth]; omega, by simp only [T.size]; omega, rfl⟩))
def ctxN (Γ : Ctx) : Prop := ∀ b ∈ Γ, nmB b.1 = true
theorem ctxN_nil : ctxN [] := by intro b h; simp at h
theorem ctxN_snoc {Γ : Ctx} {x : UInt8} {t : T} (h : ctxN Γ) (hx : nmB x = true) : ctxN (Γ ++ [(x, t)]) := by
  intro b hb
  rcases List.mem_append.1 hb with hb | hb
  · exact h b hb
  · simp at hb; subst hb; exact hx
end Go.Proofs.Ytnaebafafhamjaa
