/- Texts of the proof, one behind another. -/
import Derived.Test.YtnaebafafhamjaaKX13
import Derived.Test.YtnaebafafhamjaaKX15
import Derived.Test.YtnaebafafhamjaaKX16
set_option linter.unusedSimpArgs false
set_option linter.unusedVariables false
/- Typing of terms with casts in the reference. On shadows. -/
namespace Go.Proofs.Ytnaebafafhamjaa
open Go.RowKit Go.Proofs.Sh Go.Proofs.Grad
set_option maxRecDepth 100000
set_option maxHeartbeats 8000000
theorem sEqT {a b : T} (ha : a.depth ≤ 4) : AFn Try.prog 95 [.agg (tyC a.ty), .agg (tyC b.ty)] (.one (.sc (.bool (a.eqb b)))) := sSame 1000000 (by omega) a.ty b.ty (by have := T.ty_size16 ha; omega)
theorem sEx6 (t : Tm) (h : t.kind = 6) (s u : T) (hs : s.depth ≤ 4) : ACl Try.prog 174 [.agg (teC t), .one (.sl [tyC s.ty, tyC u.ty])] [] (TyR (cApp s u)) := by
  cases s with
  | fn p q =>
    simp only [T.depth] at hs
    have h1 := sEqT (a := p) (b := u) (by omega)
    have h2 := sCopyT (t := q) (by omega)
    simp only [T.ty, cApp]
    cases e1 : p.eqb u
    all_goals
      rw [e1] at h1
      refine acl_in Try.func174 rfl isfn_174 (Nat.le_of_ble_eq_true rfl) (fun R hR => ?_); rw [Try.results174] at hR; refine wg_run ?_; (simp only [Try.f174, go_sem, h])
      repeat' (first | (first | (simp only [go_sem, h, int_bne]) | (((first | apply sp1 | apply sp2 | apply sp3 | apply sp4 | apply sp5 | apply sp6 | apply sp7) <;> intro hb) <;> (simp only [go_sem, hb, h, int_bne])) | ((first | apply wm_done | apply wt_done | apply wg_run | refine fk ?_ ?_) <;> (simp only [go_sem, h, int_bne]))) | ((first | refine mxq6 [] ?_ | refine mxq5 [] ?_ | refine mxq4 [] ?_ | refine mxq3 [] ?_ | refine mxq2 [] ?_ | refine mxq1 [] ?_ | refine mxq0 [] ?_ | fail); (simp only [go_sem])) | (first | refine cdq ?_ (hc := h1) | refine cmq ?_ (hc := h1) | refine ctq ?_ (hc := h1)); (simp only [go_sem]) | (first | refine cdq ?_ (hc := h2) | refine cmq ?_ (hc := h2) | refine ctq ?_ (hc := h2)); (simp only [go_sem]) | fail)
    · exact hR _ (rat [] (hK := (.inr ⟨rfl, noTy, by simp [noTy, Ty.size, Ty.sizes], rfl, rfl⟩)))
    · exact hR _ (rat [] (hK := (.inl ⟨q, rfl, rfl, rfl⟩)))
  | _ =>
    simp only [T.ty, cApp]
    refine acl_in Try.func174 rfl isfn_174 (Nat.le_of_ble_eq_true rfl) (fun R hR => ?_); rw [Try.results174] at hR; refine wg_run ?_; (simp only [Try.f174, go_sem, h])
    repeat' (first | (first | (simp only [go_sem, h, int_bne]) | (((first | apply sp1 | apply sp2 | apply sp3 | apply sp4 | apply sp5 | apply sp6 | apply sp7) <;> intro hb) <;> (simp only [go_sem, hb, h, int_bne])) | ((first | apply wm_done | apply wt_done | apply wg_run | refine fk ?_ ?_) <;> (simp only [go_sem, h, int_bne]))) | ((first | refine mxq6 [] ?_ | refine mxq5 [] ?_ | refine mxq4 [] ?_ | refine mxq3 [] ?_ | refine mxq2 [] ?_ | refine mxq1 [] ?_ | refine mxq0 [] ?_ | fail); (simp only [go_sem])) | fail)
    all_goals exact hR _ (rat [] (hK := (.inr ⟨rfl, noTy, by simp [noTy, Ty.size, Ty.sizes], rfl, rfl⟩)))
theorem sEx7 (t : Tm) (h : t.kind = 7) (s u : T) (hs : s.depth ≤ 4) (hu : u.depth ≤ 4) : ACl Try.prog 174 [.agg (teC t), .one (.sl [tyC s.ty, tyC u.ty])] [] (TyR (cNum .int s u)) := by
  have h1 := sEqT (a := s) (b := .int) hs
  have h2 := sEqT (a := u) (b := .int) hu
  have hi := sIntT
  have hb := sBoolT
  have key : cNum .int s u = match s.eqb .int with | true => (match u.eqb .int with | true => some .int | false => none) | false => none := by
    cases e1 : s.eqb .int with
    | true =>
      obtain rfl := T.eqb_iff.1 e1
      cases e2 : u.eqb .int with
      | true => obtain rfl := T.eqb_iff.1 e2; rfl
      | false => cases u <;> first | rfl | (rw [T.eqb_refl] at e2; cases e2)
    | false => cases s <;> first | rfl | (rw [T.eqb_refl] at e1; cases e1)
  rw [key]
  cases e1 : s.eqb .int
  all_goals
    cases e2 : u.eqb .int
    all_goals
      rw [e1] at h1
      rw [e2] at h2
      refine acl_in Try.func174 rfl isfn_174 (Nat.le_of_ble_eq_true rfl) (fun R hR => ?_); rw [Try.results174] at hR; refine wg_run ?_; (simp only [Try.f174, go_sem, h])
      repeat' (first | (first | (simp only [go_sem, h]) | (((first | apply sp1 | apply sp2 | apply sp3 | apply sp4 | apply sp5 | apply sp6 | apply sp7) <;> intro hb) <;> (simp only [go_sem, hb, h])) | ((first | apply wm_done | apply wt_done | apply wg_run | refine fk ?_ ?_) <;> (simp only [go_sem, h]))) | ((first | refine mxq6 [] ?_ | refine mxq5 [] ?_ | refine mxq4 [] ?_ | refine mxq3 [] ?_ | refine mxq2 [] ?_ | refine mxq1 [] ?_ | refine mxq0 [] ?_ | fail); (simp only [go_sem])) | (first | refine cdq ?_ (hc := hi) | refine cmq ?_ (hc := hi) | refine ctq ?_ (hc := hi)); (simp only [go_sem]) | (first | refine cdq ?_ (hc := hb) | refine cmq ?_ (hc := hb) | refine ctq ?_ (hc := hb)); (simp only [go_sem]) | (first | refine cdq ?_ (hc := h1) | refine cmq ?_ (hc := h1) | refine ctq ?_ (hc := h1)); (simp only [go_sem]) | (first | refine cdq ?_ (hc := h2) | refine cmq ?_ (hc := h2) | refine ctq ?_ (hc := h2)); (simp only [go_sem]) | fail)
      first
        | exact hR _ (rat [] (hK := (.inr ⟨rfl, T.int.ty, by simp [T.ty, Ty.size, Ty.sizes], rfl, rfl⟩)))
        | exact hR _ (rat [] (hK := (.inl ⟨.int, rfl, rfl, rfl⟩)))
theorem sEx8 (t : Tm) (h : t.kind = 8) (s u : T) (hs : s.depth ≤ 4) (hu : u.depth ≤ 4) : ACl Try.prog 174 [.agg (teC t), .one (.sl [tyC s.ty, tyC u.ty])] [] (TyR (cNum .bool s u)) := by
  have h1 := sEqT (a := s) (b := .int) hs
  have h2 := sEqT (a := u) (b := .int) hu
  have hi := sIntT
  have hb := sBoolT
  have key : cNum .bool s u = match s.eqb .int with | true => (match u.eqb .int with | true => some .bool | false => none) | false => none := by
    cases e1 : s.eqb .int with
    | true =>
      obtain rfl := T.eqb_iff.1 e1
      cases e2 : u.eqb .int with
      | true => obtain rfl := T.eqb_iff.1 e2; rfl
      | false => cases u <;> first | rfl | (rw [T.eqb_refl] at e2; cases e2)
    | false => cases s <;> first | rfl | (rw [T.eqb_refl] at e1; cases e1)
  rw [key]
  cases e1 : s.eqb .int
  all_goals
    cases e2 : u.eqb .int
    all_goals
      rw [e1] at h1
      rw [e2] at h2
      refine acl_in Try.func174 rfl isfn_174 (Nat.le_of_ble_eq_true rfl) (fun R hR => ?_); rw [Try.results174] at hR; refine wg_run ?_; (simp only [Try.f174, go_sem, h])
      repeat' (first | (first | (simp only [go_sem, h]) | (((first | apply sp1 | apply sp2 | apply sp3 | apply sp4 | apply sp5 | apply sp6 | apply sp7) <;> intro hb) <;> (simp only [go_sem, hb, h])) | ((first | apply wm_done | apply wt_done | apply wg_run | refine fk ?_ ?_) <;> (simp only [go_sem, h]))) | ((first | refine mxq6 [] ?_ | refine mxq5 [] ?_ | refine mxq4 [] ?_ | refine mxq3 [] ?_ | refine mxq2 [] ?_ | refine mxq1 [] ?_ | refine mxq0 [] ?_ | fail); (simp only [go_sem])) | (first | refine cdq ?_ (hc := hi) | refine cmq ?_ (hc := hi) | refine ctq ?_ (hc := hi)); (simp only [go_sem]) | (first | refine cdq ?_ (hc := hb) | refine cmq ?_ (hc := hb) | refine ctq ?_ (hc := hb)); (simp only [go_sem]) | (first | refine cdq ?_ (hc := h1) | refine cmq ?_ (hc := h1) | refine ctq ?_ (hc := h1)); (simp only [go_sem]) | (first | refine cdq ?_ (hc := h2) | refine cmq ?_ (hc := h2) | refine ctq ?_ (hc := h2)); (simp only [go_sem]) | fail)
      first
        | exact hR _ (rat [] (hK := (.inr ⟨rfl, T.bool.ty, by simp [T.ty, Ty.size, Ty.sizes], rfl, rfl⟩)))
        | exact hR _ (rat [] (hK := (.inl ⟨.bool, rfl, rfl, rfl⟩)))
theorem sEx9 (t : Tm) (h : t.kind = 9) (s u v : T) (hs : s.depth ≤ 4) (hu : u.depth ≤ 4) : ACl Try.prog 174 [.agg (teC t), .one (.sl [tyC s.ty, tyC u.ty, tyC v.ty])] [] (TyR (cIte s u v)) := by
  have h1 := sEqT (a := s) (b := .bool) hs
  have h2 := sEqT (a := u) (b := v) hu
  have hb := sBoolT
  have h3 := sCopyT hu
  have hz := T.ty_size16 hu
  have key : cIte s u v = match s.eqb .bool with | true => (match u.eqb v with | true => some u | false => none) | false => none := by
    cases e1 : s.eqb .bool with
    | true => obtain rfl := T.eqb_iff.1 e1; rfl
    | false => cases s <;> first | rfl | (rw [T.eqb_refl] at e1; cases e1)
  rw [key]
  cases e1 : s.eqb .bool
  all_goals
    cases e2 : u.eqb v
    all_goals
      rw [e1] at h1
      rw [e2] at h2
      refine acl_in Try.func174 rfl isfn_174 (Nat.le_of_ble_eq_true rfl) (fun R hR => ?_); rw [Try.results174] at hR; refine wg_run ?_; (simp only [Try.f174, go_sem, h])
      repeat' (first | (first | (simp only [go_sem, h]) | (((first | apply sp1 | apply sp2 | apply sp3 | apply sp4 | apply sp5 | apply sp6 | apply sp7) <;> intro hb) <;> (simp only [go_sem, hb, h])) | ((first | apply wm_done | apply wt_done | apply wg_run | refine fk ?_ ?_) <;> (simp only [go_sem, h]))) | ((first | refine mxq6 [] ?_ | refine mxq5 [] ?_ | refine mxq4 [] ?_ | refine mxq3 [] ?_ | refine mxq2 [] ?_ | refine mxq1 [] ?_ | refine mxq0 [] ?_ | fail); (simp only [go_sem])) | (first | refine cdq ?_ (hc := hb) | refine cmq ?_ (hc := hb) | refine ctq ?_ (hc := hb)); (simp only [go_sem]) | (first | refine cdq ?_ (hc := h1) | refine cmq ?_ (hc := h1) | refine ctq ?_ (hc := h1)); (simp only [go_sem]) | (first | refine cdq ?_ (hc := h2) | refine cmq ?_ (hc := h2) | refine ctq ?_ (hc := h2)); (simp only [go_sem]) | (first | refine cdq ?_ (hc := h3) | refine cmq ?_ (hc := h3) | refine ctq ?_ (hc := h3)); (simp only [go_sem]) | fail)
      first
        | exact hR _ (rat [] (hK := (.inr ⟨rfl, u.ty, by omega, rfl, rfl⟩)))
        | exact hR _ (rat [] (hK := (.inl ⟨u, rfl, rfl, rfl⟩)))
theorem sEx10 (t : Tm) (h : t.kind = 10) (s u : T) (hs : s.depth ≤ 4) (hu : u.depth ≤ 4) : ACl Try.prog 174 [.agg (teC t), .one (.sl [tyC s.ty, tyC u.ty])] [] (TyR (twoP s u)) := by
  have hm := l3TwoP s u hs hu
  have hz := (T.two_size hs hu).2
  unfold twoP
  cases ed : decide ((T.pr s u).depth ≤ 4)
  all_goals
    rw [ed] at hm
    refine acl_in Try.func174 rfl isfn_174 (Nat.le_of_ble_eq_true rfl) (fun R hR => ?_); rw [Try.results174] at hR; refine wg_run ?_; (simp only [Try.f174, go_sem, h])
    repeat' (first | (first | (simp only [go_sem, h]) | (((first | apply sp1 | apply sp2 | apply sp3 | apply sp4 | apply sp5 | apply sp6 | apply sp7) <;> intro hb) <;> (simp only [go_sem, hb, h])) | ((first | apply wm_done | apply wt_done | apply wg_run | refine fk ?_ ?_) <;> (simp only [go_sem, h]))) | ((first | refine mxq6 [] ?_ | refine mxq5 [] ?_ | refine mxq4 [] ?_ | refine mxq3 [] ?_ | refine mxq2 [] ?_ | refine mxq1 [] ?_ | refine mxq0 [] ?_ | fail); (simp only [go_sem])) | (first | refine cdq ?_ (hc := hm) | refine cmq ?_ (hc := hm) | refine ctq ?_ (hc := hm)); (simp only [go_sem]) | fail)
  · exact hR _ (rat [] (hK := (.inr ⟨rfl, (T.pr s u).ty, hz, rfl, rfl⟩)))
  · exact hR _ (rat [] (hK := (.inl ⟨T.pr s u, rfl, rfl, rfl⟩)))
theorem sEx11 (t : Tm) (h : t.kind = 11) (s : T) (hs : s.depth ≤ 4) : ACl Try.prog 174 [.agg (teC t), .one (.sl [tyC s.ty])] [] (TyR (cFst s)) := by
  cases s with
  | pr p q =>
    simp only [T.depth] at hs
    have h2 := sCopyT (t := p) (by omega)
    have hw0 : IntKind.i64.wrap (11 - 11) = 0 := by decide
    simp only [T.ty, cFst]
    refine acl_in Try.func174 rfl isfn_174 (Nat.le_of_ble_eq_true rfl) (fun R hR => ?_); rw [Try.results174] at hR; refine wg_run ?_; (simp only [Try.f174, go_sem, h])
    repeat' (first | (first | (simp only [go_sem, h, int_bne, hw0]) | (((first | apply sp1 | apply sp2 | apply sp3 | apply sp4 | apply sp5 | apply sp6 | apply sp7) <;> intro hb) <;> (simp only [go_sem, hb, h, int_bne, hw0])) | ((first | apply wm_done | apply wt_done | apply wg_run | refine fk ?_ ?_) <;> (simp only [go_sem, h, int_bne, hw0]))) | ((first | refine mxq6 [] ?_ | refine mxq5 [] ?_ | refine mxq4 [] ?_ | refine mxq3 [] ?_ | refine mxq2 [] ?_ | refine mxq1 [] ?_ | refine mxq0 [] ?_ | fail); (simp only [go_sem, h, hw0])) | (first | refine cdq ?_ (hc := h2) | refine cmq ?_ (hc := h2) | refine ctq ?_ (hc := h2)); (simp only [go_sem]) | fail)
    exact hR _ (rat [] (hK := (.inl ⟨p, rfl, rfl, rfl⟩)))
  | _ =>
    simp only [T.ty, cFst]
    refine acl_in Try.func174 rfl isfn_174 (Nat.le_of_ble_eq_true rfl) (fun R hR => ?_); rw [Try.results174] at hR; refine wg_run ?_; (simp only [Try.f174, go_sem, h])
    repeat' (first | (first | (simp only [go_sem, h, int_bne]) | (((first | apply sp1 | apply sp2 | apply sp3 | apply sp4 | apply sp5 | apply sp6 | apply sp7) <;> intro hb) <;> (simp only [go_sem, hb, h, int_bne])) | ((first | apply wm_done | apply wt_done | apply wg_run | refine fk ?_ ?_) <;> (simp only [go_sem, h, int_bne]))) | ((first | refine mxq6 [] ?_ | refine mxq5 [] ?_ | refine mxq4 [] ?_ | refine mxq3 [] ?_ | refine mxq2 [] ?_ | refine mxq1 [] ?_ | refine mxq0 [] ?_ | fail); (simp only [go_sem])) | fail)
    all_goals exact hR _ (rat [] (hK := (.inr ⟨rfl, noTy, by simp [noTy, Ty.size, Ty.sizes], rfl, rfl⟩)))
theorem sEx12 (t : Tm) (h : t.kind = 12) (s : T) (hs : s.depth ≤ 4) : ACl Try.prog 174 [.agg (teC t), .one (.sl [tyC s.ty])] [] (TyR (cSnd s)) := by
  cases s with
  | pr p q =>
    simp only [T.depth] at hs
    have h2 := sCopyT (t := q) (by omega)
    have hw0 : IntKind.i64.wrap (12 - 11) = 1 := by decide
    simp only [T.ty, cSnd]
    refine acl_in Try.func174 rfl isfn_174 (Nat.le_of_ble_eq_true rfl) (fun R hR => ?_); rw [Try.results174] at hR; refine wg_run ?_; (simp only [Try.f174, go_sem, h])
    repeat' (first | (first | (simp only [go_sem, h, int_bne, hw0]) | (((first | apply sp1 | apply sp2 | apply sp3 | apply sp4 | apply sp5 | apply sp6 | apply sp7) <;> intro hb) <;> (simp only [go_sem, hb, h, int_bne, hw0])) | ((first | apply wm_done | apply wt_done | apply wg_run | refine fk ?_ ?_) <;> (simp only [go_sem, h, int_bne, hw0]))) | ((first | refine mxq6 [] ?_ | refine mxq5 [] ?_ | refine mxq4 [] ?_ | refine mxq3 [] ?_ | refine mxq2 [] ?_ | refine mxq1 [] ?_ | refine mxq0 [] ?_ | fail); (simp only [go_sem, h, hw0])) | (first | refine cdq ?_ (hc := h2) | refine cmq ?_ (hc := h2) | refine ctq ?_ (hc := h2)); (simp only [go_sem]) | fail)
    exact hR _ (rat [] (hK := (.inl ⟨q, rfl, rfl, rfl⟩)))
  | _ =>
    simp only [T.ty, cSnd]
    refine acl_in Try.func174 rfl isfn_174 (Nat.le_of_ble_eq_true rfl) (fun R hR => ?_); rw [Try.results174] at hR; refine wg_run ?_; (simp only [Try.f174, go_sem, h])
    repeat' (first | (first | (simp only [go_sem, h, int_bne]) | (((first | apply sp1 | apply sp2 | apply sp3 | apply sp4 | apply sp5 | apply sp6 | apply sp7) <;> intro hb) <;> (simp only [go_sem, hb, h, int_bne])) | ((first | apply wm_done | apply wt_done | apply wg_run | refine fk ?_ ?_) <;> (simp only [go_sem, h, int_bne]))) | ((first | refine mxq6 [] ?_ | refine mxq5 [] ?_ | refine mxq4 [] ?_ | refine mxq3 [] ?_ | refine mxq2 [] ?_ | refine mxq1 [] ?_ | refine mxq0 [] ?_ | fail); (simp only [go_sem])) | fail)
    all_goals exact hR _ (rat [] (hK := (.inr ⟨rfl, noTy, by simp [noTy, Ty.size, Ty.sizes], rfl, rfl⟩)))
theorem sEx14 (a : E) (s t : T) (l : Int) (u : T) (hs : u.depth ≤ 4) (ht : t.depth ≤ 4) : ACl Try.prog 174 [.agg (teC (E.cast s t l a).tm), .one (.sl [tyC u.ty])] [] (TyR (cCast s t u)) := by
  have h1 := sEqT (a := u) (b := s) hs
  have h2 := sCopyT ht
  have hz := T.ty_size16 ht
  unfold cCast
  simp only [E.tm]
  cases e1 : u.eqb s
  all_goals
    rw [e1] at h1
    refine acl_in Try.func174 rfl isfn_174 (Nat.le_of_ble_eq_true rfl) (fun R hR => ?_); rw [Try.results174] at hR; refine wg_run ?_; (simp only [Try.f174, go_sem])
    repeat' (first | (first | (((first | apply sp1 | apply sp2 | apply sp3 | apply sp4 | apply sp5 | apply sp6 | apply sp7) <;> intro hb) <;> (simp only [go_sem, hb])) | ((first | apply wm_done | apply wt_done | apply wg_run | refine fk ?_ ?_) <;> (simp only [go_sem]))) | ((first | refine mxq6 [] ?_ | refine mxq5 [] ?_ | refine mxq4 [] ?_ | refine mxq3 [] ?_ | refine mxq2 [] ?_ | refine mxq1 [] ?_ | refine mxq0 [] ?_ | fail); (simp only [go_sem])) | (first | refine cdq ?_ (hc := h2) | refine cmq ?_ (hc := h2) | refine ctq ?_ (hc := h2)); (simp only [go_sem]) | (first | refine cdq ?_ (hc := h1) | refine cmq ?_ (hc := h1) | refine ctq ?_ (hc := h1)); (simp only [go_sem]) | fail)
  · exact hR _ (rat [] (hK := (.inr ⟨rfl, t.ty, by omega, rfl, rfl⟩)))
  · exact hR _ (rat [] (hK := (.inl ⟨t, rfl, rfl, rfl⟩)))
theorem l4Type (e : E) : ∀ Γ : Ctx, e.wf = true → e.noA = true → ctxOk Γ → Γ.length + e.nodes < 50000 → ACl Try.prog 145 [.one (.sl (bdR Γ)), .agg (teC e.tm)] [] (TyR (e.cty Γ)) := by
  induction e with
  | var x =>
    intro Γ hw hn hc hl
    have h1 := l3Type (.var x) Γ hw rfl hc hl
    simp only [E.rty] at h1
    simp only [E.cty]
    simp only [E.tm] at h1 ⊢
    refine acl_in Try.func145 rfl isfn_145 (Nat.le_of_ble_eq_true rfl) (fun R hR => ?_); rw [Try.results145] at hR; refine wg_run ?_; (simp only [Try.f145, go_sem])
    repeat' (first | (first | (((first | apply sp1 | apply sp2 | apply sp3 | apply sp4 | apply sp5 | apply sp6 | apply sp7) <;> intro hb) <;> (simp only [go_sem, hb])) | ((first | apply wm_done | apply wt_done | apply wg_run | refine fk ?_ ?_) <;> (simp only [go_sem]))) | ((first | refine mxq6 [] ?_ | refine mxq5 [] ?_ | refine mxq4 [] ?_ | refine mxq3 [] ?_ | refine mxq2 [] ?_ | refine mxq1 [] ?_ | refine mxq0 [] ?_ | fail); (simp only [go_sem])) | ((first | refine kdq [] ?_ (hc := h1) | refine kmq [] ?_ (hc := h1) | refine ktq [] ?_ (hc := h1)); rintro _ _ (⟨u, eu, rfl, rfl⟩ | ⟨eu, y, hy, rfl, rfl⟩) <;> (simp only [go_sem])) | fail)
    · exact hR _ (rat [] (hK := (.inl ⟨u, eu, rfl, rfl⟩)))
    · exact hR _ (rat [] (hK := (.inr ⟨eu, y, hy, rfl, rfl⟩)))
  | num n =>
    intro Γ hw hn hc hl
    have h1 := l3Type (.num n) Γ hw rfl hc hl
    simp only [E.rty] at h1
    simp only [E.cty]
    simp only [E.tm] at h1 ⊢
    refine acl_in Try.func145 rfl isfn_145 (Nat.le_of_ble_eq_true rfl) (fun R hR => ?_); rw [Try.results145] at hR; refine wg_run ?_; (simp only [Try.f145, go_sem])
    repeat' (first | (first | (((first | apply sp1 | apply sp2 | apply sp3 | apply sp4 | apply sp5 | apply sp6 | apply sp7) <;> intro hb) <;> (simp only [go_sem, hb])) | ((first | apply wm_done | apply wt_done | apply wg_run | refine fk ?_ ?_) <;> (simp only [go_sem]))) | ((first | refine mxq6 [] ?_ | refine mxq5 [] ?_ | refine mxq4 [] ?_ | refine mxq3 [] ?_ | refine mxq2 [] ?_ | refine mxq1 [] ?_ | refine mxq0 [] ?_ | fail); (simp only [go_sem])) | ((first | refine kdq [] ?_ (hc := h1) | refine kmq [] ?_ (hc := h1) | refine ktq [] ?_ (hc := h1)); rintro _ _ (⟨u, eu, rfl, rfl⟩ | ⟨eu, y, hy, rfl, rfl⟩) <;> (simp only [go_sem])) | fail)
    · exact hR _ (rat [] (hK := (.inl ⟨u, eu, rfl, rfl⟩)))
    · exact hR _ (rat [] (hK := (.inr ⟨eu, y, hy, rfl, rfl⟩)))
  | tru =>
    intro Γ hw hn hc hl
    have h1 := l3Type .tru Γ hw rfl hc hl
    simp only [E.rty] at h1
    simp only [E.cty]
    simp only [E.tm, nd] at h1 ⊢
    refine acl_in Try.func145 rfl isfn_145 (Nat.le_of_ble_eq_true rfl) (fun R hR => ?_); rw [Try.results145] at hR; refine wg_run ?_; (simp only [Try.f145, go_sem])
    repeat' (first | (first | (((first | apply sp1 | apply sp2 | apply sp3 | apply sp4 | apply sp5 | apply sp6 | apply sp7) <;> intro hb) <;> (simp only [go_sem, hb])) | ((first | apply wm_done | apply wt_done | apply wg_run | refine fk ?_ ?_) <;> (simp only [go_sem]))) | ((first | refine mxq6 [] ?_ | refine mxq5 [] ?_ | refine mxq4 [] ?_ | refine mxq3 [] ?_ | refine mxq2 [] ?_ | refine mxq1 [] ?_ | refine mxq0 [] ?_ | fail); (simp only [go_sem])) | ((first | refine kdq [] ?_ (hc := h1) | refine kmq [] ?_ (hc := h1) | refine ktq [] ?_ (hc := h1)); rintro _ _ (⟨u, eu, rfl, rfl⟩ | ⟨eu, y, hy, rfl, rfl⟩) <;> (simp only [go_sem])) | fail)
    · exact hR _ (rat [] (hK := (.inl ⟨u, eu, rfl, rfl⟩)))
    · exact hR _ (rat [] (hK := (.inr ⟨eu, y, hy, rfl, rfl⟩)))
  | fls =>
    intro Γ hw hn hc hl
    have h1 := l3Type .fls Γ hw rfl hc hl
    simp only [E.rty] at h1
    simp only [E.cty]
    simp only [E.tm, nd] at h1 ⊢
    refine acl_in Try.func145 rfl isfn_145 (Nat.le_of_ble_eq_true rfl) (fun R hR => ?_); rw [Try.results145] at hR; refine wg_run ?_; (simp only [Try.f145, go_sem])
    repeat' (first | (first | (((first | apply sp1 | apply sp2 | apply sp3 | apply sp4 | apply sp5 | apply sp6 | apply sp7) <;> intro hb) <;> (simp only [go_sem, hb])) | ((first | apply wm_done | apply wt_done | apply wg_run | refine fk ?_ ?_) <;> (simp only [go_sem]))) | ((first | refine mxq6 [] ?_ | refine mxq5 [] ?_ | refine mxq4 [] ?_ | refine mxq3 [] ?_ | refine mxq2 [] ?_ | refine mxq1 [] ?_ | refine mxq0 [] ?_ | fail); (simp only [go_sem])) | ((first | refine kdq [] ?_ (hc := h1) | refine kmq [] ?_ (hc := h1) | refine ktq [] ?_ (hc := h1)); rintro _ _ (⟨u, eu, rfl, rfl⟩ | ⟨eu, y, hy, rfl, rfl⟩) <;> (simp only [go_sem])) | fail)
    · exact hR _ (rat [] (hK := (.inl ⟨u, eu, rfl, rfl⟩)))
    · exact hR _ (rat [] (hK := (.inr ⟨eu, y, hy, rfl, rfl⟩)))
  | lam x t a ih =>
    intro Γ hw hn hc hl
    simp only [E.wf, Bool.and_eq_true, decide_eq_true_eq] at hw
    simp only [E.noA] at hn
    simp only [E.nodes] at hl
    have hm := l3More Γ (by omega) x t
    have hc2 := ctxOk_snoc (x := x) hc hw.2.1
    have h1 := ih (Γ ++ [(x, t)]) hw.2.2 hn hc2 (by simp; omega)
    have hdep := a.cty_depth (Γ ++ [(x, t)])
    simp only [E.cty]
    simp only [E.tm]
    refine acl_in Try.func145 rfl isfn_145 (Nat.le_of_ble_eq_true rfl) (fun R hR => ?_); rw [Try.results145] at hR; refine wg_run ?_; (simp only [Try.f145, go_sem])
    repeat' (first | (first | (((first | apply sp1 | apply sp2 | apply sp3 | apply sp4 | apply sp5 | apply sp6 | apply sp7) <;> intro hb) <;> (simp only [go_sem, hb])) | ((first | apply wm_done | apply wt_done | apply wg_run | refine fk ?_ ?_) <;> (simp only [go_sem]))) | (first | (refine tr (.op 0 false (.op 1 false (.op 2 false (.op 3 false (.op 4 false (.op 6 false (.op 7 false (.op 8 false (.op 9 false (.fork 5 false (.fork 10 true (.op 11 false (.op 12 false (.op 13 false (.op 14 false (.op 15 true (.op 16 false .nil)))))) (.op 14 false (.op 10 true (.op 11 false (.op 12 false (.op 13 false (.op 15 true (.op 16 false .nil)))))))) (.op 14 false (.op 5 false (.op 10 true (.op 11 false (.op 12 false (.op 13 false (.op 15 true (.op 16 false .nil)))))))))))))))))) [] follows ?_; (simp only [go_sem])) | fail) | ((first | refine mxq6 [] ?_ | refine mxq5 [] ?_ | refine mxq4 [] ?_ | refine mxq3 [] ?_ | refine mxq2 [] ?_ | refine mxq1 [] ?_ | refine mxq0 [] ?_ | fail); (simp only [go_sem])) | (first | refine cdq ?_ (hc := hm) | refine cmq ?_ (hc := hm) | refine ctq ?_ (hc := hm)); (simp only [go_sem]) | ((first | refine kdq [] ?_ (hc := h1) | refine kmq [] ?_ (hc := h1) | refine ktq [] ?_ (hc := h1)); rintro _ _ (⟨u, eu, rfl, rfl⟩ | ⟨eu, y, hy, rfl, rfl⟩) <;> (simp only [go_sem])) | fail)
    all_goals first | rw [eu] | (rw [eu] at hR)
    all_goals (try simp only [] at hR ⊢)
    all_goals first
      | exact hR _ (rat [] (hK := (.inr ⟨rfl, noTy, by simp [noTy, Ty.size, Ty.sizes], rfl, rfl⟩)))
      | (have hdu := hdep u hw.2.2 hc2 eu
         have h2 := l3TwoF t u hw.2.1 hdu
         have hz := (T.two_size hw.2.1 hdu).1
         simp only [twoF] at hR
         cases ed : decide ((T.fn t u).depth ≤ 4)
         all_goals
           rw [ed] at h2 hR
           simp only [] at hR
           repeat' (first | (first | (((first | apply sp1 | apply sp2 | apply sp3 | apply sp4 | apply sp5 | apply sp6 | apply sp7) <;> intro hb) <;> (simp only [go_sem, hb])) | ((first | apply wm_done | apply wt_done | apply wg_run | refine fk ?_ ?_) <;> (simp only [go_sem]))) | (first | refine cdq ?_ (hc := h2) | refine cmq ?_ (hc := h2) | refine ctq ?_ (hc := h2)); (simp only [go_sem]) | fail)
           first
             | exact hR _ (rat [] (hK := (.inr ⟨rfl, (T.fn t u).ty, hz, rfl, rfl⟩)))
             | exact hR _ (rat [] (hK := (.inl ⟨T.fn t u, rfl, rfl, rfl⟩))))
  | app a b iha ihb =>
    intro Γ hw hn hc hl
    simp only [E.wf, Bool.and_eq_true] at hw
    simp only [E.noA, Bool.and_eq_true] at hn
    simp only [E.nodes] at hl
    have h1 := iha Γ hw.1 hn.1 hc (by omega)
    have h2 := ihb Γ hw.2 hn.2 hc (by omega)
    simp only [E.cty]
    simp only [E.tm, nd]
    refine acl_in Try.func145 rfl isfn_145 (Nat.le_of_ble_eq_true rfl) (fun R hR => ?_); rw [Try.results145] at hR; refine wg_run ?_; (simp only [Try.f145, go_sem])
    repeat' (first | (first | (((first | apply sp1 | apply sp2 | apply sp3 | apply sp4 | apply sp5 | apply sp6 | apply sp7) <;> intro hb) <;> (simp only [go_sem, hb])) | ((first | apply wm_done | apply wt_done | apply wg_run | refine fk ?_ ?_) <;> (simp only [go_sem]))) | (first | (refine wl_next (wg_run ?_); (simp only [go_sem])) | refine wd_rounds 6 ?_) | ((first | refine kdq [] ?_ (hc := h1) | refine kmq [] ?_ (hc := h1) | refine ktq [] ?_ (hc := h1)); rintro _ _ (⟨s, es, rfl, rfl⟩ | ⟨es, y, hy, rfl, rfl⟩) <;> (simp only [go_sem])))
    all_goals rw [es] at hR
    all_goals simp only [] at hR
    all_goals first
      | exact hR _ (rat [] (hK := (.inr ⟨rfl, noTy, by simp [noTy, Ty.size, Ty.sizes], rfl, rfl⟩)))
      | skip
    repeat' (first | (first | (((first | apply sp1 | apply sp2 | apply sp3 | apply sp4 | apply sp5 | apply sp6 | apply sp7) <;> intro hb) <;> (simp only [go_sem, hb])) | ((first | apply wm_done | apply wt_done | apply wg_run | refine fk ?_ ?_) <;> (simp only [go_sem]))) | (first | (refine wl_next (wg_run ?_); (simp only [go_sem])) | refine wd_rounds 6 ?_) | ((first | refine kdq [] ?_ (hc := h2) | refine kmq [] ?_ (hc := h2) | refine ktq [] ?_ (hc := h2)); rintro _ _ (⟨u, eu, rfl, rfl⟩ | ⟨eu, y, hy, rfl, rfl⟩) <;> (simp only [go_sem])))
    all_goals rw [eu] at hR
    all_goals simp only [] at hR
    all_goals first
      | exact hR _ (rat [] (hK := (.inr ⟨rfl, noTy, by simp [noTy, Ty.size, Ty.sizes], rfl, rfl⟩)))
      | skip
    have hr := sEx6 (Tm.mk 6 ByteArray.empty 0 noTy noTy 0 [a.tm, b.tm]) rfl s u (a.cty_depth _ _ hw.1 hc es)
    repeat' (first | (first | (((first | apply sp1 | apply sp2 | apply sp3 | apply sp4 | apply sp5 | apply sp6 | apply sp7) <;> intro hb) <;> (simp only [go_sem, hb])) | ((first | apply wm_done | apply wt_done | apply wg_run | refine fk ?_ ?_) <;> (simp only [go_sem]))) | (first | (refine wl_next (wg_run ?_); (simp only [go_sem])) | refine wd_rounds 6 ?_) | ((first | refine kdq [] ?_ (hc := hr) | refine kmq [] ?_ (hc := hr) | refine ktq [] ?_ (hc := hr)); rintro _ _ (⟨v, ev, rfl, rfl⟩ | ⟨ev, y, hy, rfl, rfl⟩) <;> (simp only [go_sem])))
    · exact hR _ (rat [] (hK := (.inl ⟨v, ev, rfl, rfl⟩)))
    · exact hR _ (rat [] (hK := (.inr ⟨ev, y, hy, rfl, rfl⟩)))
  | add a b iha ihb =>
    intro Γ hw hn hc hl
    simp only [E.wf, Bool.and_eq_true] at hw
    simp only [E.noA, Bool.and_eq_true] at hn
    simp only [E.nodes] at hl
    have h1 := iha Γ hw.1 hn.1 hc (by omega)
    have h2 := ihb Γ hw.2 hn.2 hc (by omega)
    simp only [E.cty]
    simp only [E.tm, nd]
    refine acl_in Try.func145 rfl isfn_145 (Nat.le_of_ble_eq_true rfl) (fun R hR => ?_); rw [Try.results145] at hR; refine wg_run ?_; (simp only [Try.f145, go_sem])
    repeat' (first | (first | (((first | apply sp1 | apply sp2 | apply sp3 | apply sp4 | apply sp5 | apply sp6 | apply sp7) <;> intro hb) <;> (simp only [go_sem, hb])) | ((first | apply wm_done | apply wt_done | apply wg_run | refine fk ?_ ?_) <;> (simp only [go_sem]))) | (first | (refine wl_next (wg_run ?_); (simp only [go_sem])) | refine wd_rounds 6 ?_) | ((first | refine kdq [] ?_ (hc := h1) | refine kmq [] ?_ (hc := h1) | refine ktq [] ?_ (hc := h1)); rintro _ _ (⟨s, es, rfl, rfl⟩ | ⟨es, y, hy, rfl, rfl⟩) <;> (simp only [go_sem])))
    all_goals rw [es] at hR
    all_goals simp only [] at hR
    all_goals first
      | exact hR _ (rat [] (hK := (.inr ⟨rfl, noTy, by simp [noTy, Ty.size, Ty.sizes], rfl, rfl⟩)))
      | skip
    repeat' (first | (first | (((first | apply sp1 | apply sp2 | apply sp3 | apply sp4 | apply sp5 | apply sp6 | apply sp7) <;> intro hb) <;> (simp only [go_sem, hb])) | ((first | apply wm_done | apply wt_done | apply wg_run | refine fk ?_ ?_) <;> (simp only [go_sem]))) | (first | (refine wl_next (wg_run ?_); (simp only [go_sem])) | refine wd_rounds 6 ?_) | ((first | refine kdq [] ?_ (hc := h2) | refine kmq [] ?_ (hc := h2) | refine ktq [] ?_ (hc := h2)); rintro _ _ (⟨u, eu, rfl, rfl⟩ | ⟨eu, y, hy, rfl, rfl⟩) <;> (simp only [go_sem])))
    all_goals rw [eu] at hR
    all_goals simp only [] at hR
    all_goals first
      | exact hR _ (rat [] (hK := (.inr ⟨rfl, noTy, by simp [noTy, Ty.size, Ty.sizes], rfl, rfl⟩)))
      | skip
    have hr := sEx7 (Tm.mk 7 ByteArray.empty 0 noTy noTy 0 [a.tm, b.tm]) rfl s u (a.cty_depth _ _ hw.1 hc es) (b.cty_depth _ _ hw.2 hc eu)
    repeat' (first | (first | (((first | apply sp1 | apply sp2 | apply sp3 | apply sp4 | apply sp5 | apply sp6 | apply sp7) <;> intro hb) <;> (simp only [go_sem, hb])) | ((first | apply wm_done | apply wt_done | apply wg_run | refine fk ?_ ?_) <;> (simp only [go_sem]))) | (first | (refine wl_next (wg_run ?_); (simp only [go_sem])) | refine wd_rounds 6 ?_) | ((first | refine kdq [] ?_ (hc := hr) | refine kmq [] ?_ (hc := hr) | refine ktq [] ?_ (hc := hr)); rintro _ _ (⟨v, ev, rfl, rfl⟩ | ⟨ev, y, hy, rfl, rfl⟩) <;> (simp only [go_sem])))
    · exact hR _ (rat [] (hK := (.inl ⟨v, ev, rfl, rfl⟩)))
    · exact hR _ (rat [] (hK := (.inr ⟨ev, y, hy, rfl, rfl⟩)))
  | less a b iha ihb =>
    intro Γ hw hn hc hl
    simp only [E.wf, Bool.and_eq_true] at hw
    simp only [E.noA, Bool.and_eq_true] at hn
    simp only [E.nodes] at hl
    have h1 := iha Γ hw.1 hn.1 hc (by omega)
    have h2 := ihb Γ hw.2 hn.2 hc (by omega)
    simp only [E.cty]
    simp only [E.tm, nd]
    refine acl_in Try.func145 rfl isfn_145 (Nat.le_of_ble_eq_true rfl) (fun R hR => ?_); rw [Try.results145] at hR; refine wg_run ?_; (simp only [Try.f145, go_sem])
    repeat' (first | (first | (((first | apply sp1 | apply sp2 | apply sp3 | apply sp4 | apply sp5 | apply sp6 | apply sp7) <;> intro hb) <;> (simp only [go_sem, hb])) | ((first | apply wm_done | apply wt_done | apply wg_run | refine fk ?_ ?_) <;> (simp only [go_sem]))) | (first | (refine wl_next (wg_run ?_); (simp only [go_sem])) | refine wd_rounds 6 ?_) | ((first | refine kdq [] ?_ (hc := h1) | refine kmq [] ?_ (hc := h1) | refine ktq [] ?_ (hc := h1)); rintro _ _ (⟨s, es, rfl, rfl⟩ | ⟨es, y, hy, rfl, rfl⟩) <;> (simp only [go_sem])))
    all_goals rw [es] at hR
    all_goals simp only [] at hR
    all_goals first
      | exact hR _ (rat [] (hK := (.inr ⟨rfl, noTy, by simp [noTy, Ty.size, Ty.sizes], rfl, rfl⟩)))
      | skip
    repeat' (first | (first | (((first | apply sp1 | apply sp2 | apply sp3 | apply sp4 | apply sp5 | apply sp6 | apply sp7) <;> intro hb) <;> (simp only [go_sem, hb])) | ((first | apply wm_done | apply wt_done | apply wg_run | refine fk ?_ ?_) <;> (simp only [go_sem]))) | (first | (refine wl_next (wg_run ?_); (simp only [go_sem])) | refine wd_rounds 6 ?_) | ((first | refine kdq [] ?_ (hc := h2) | refine kmq [] ?_ (hc := h2) | refine ktq [] ?_ (hc := h2)); rintro _ _ (⟨u, eu, rfl, rfl⟩ | ⟨eu, y, hy, rfl, rfl⟩) <;> (simp only [go_sem])))
    all_goals rw [eu] at hR
    all_goals simp only [] at hR
    all_goals first
      | exact hR _ (rat [] (hK := (.inr ⟨rfl, noTy, by simp [noTy, Ty.size, Ty.sizes], rfl, rfl⟩)))
      | skip
    have hr := sEx8 (Tm.mk 8 ByteArray.empty 0 noTy noTy 0 [a.tm, b.tm]) rfl s u (a.cty_depth _ _ hw.1 hc es) (b.cty_depth _ _ hw.2 hc eu)
    repeat' (first | (first | (((first | apply sp1 | apply sp2 | apply sp3 | apply sp4 | apply sp5 | apply sp6 | apply sp7) <;> intro hb) <;> (simp only [go_sem, hb])) | ((first | apply wm_done | apply wt_done | apply wg_run | refine fk ?_ ?_) <;> (simp only [go_sem]))) | (first | (refine wl_next (wg_run ?_); (simp only [go_sem])) | refine wd_rounds 6 ?_) | ((first | refine kdq [] ?_ (hc := hr) | refine kmq [] ?_ (hc := hr) | refine ktq [] ?_ (hc := hr)); rintro _ _ (⟨v, ev, rfl, rfl⟩ | ⟨ev, y, hy, rfl, rfl⟩) <;> (simp only [go_sem])))
    · exact hR _ (rat [] (hK := (.inl ⟨v, ev, rfl, rfl⟩)))
    · exact hR _ (rat [] (hK := (.inr ⟨ev, y, hy, rfl, rfl⟩)))
  | ite a b c iha ihb ihc =>
    intro Γ hw hn hc hl
    simp only [E.wf, Bool.and_eq_true] at hw
    simp only [E.noA, Bool.and_eq_true] at hn
    simp only [E.nodes] at hl
    have h1 := iha Γ hw.1 hn.1 hc (by omega)
    have h2 := ihb Γ hw.2.1 hn.2.1 hc (by omega)
    have h3 := ihc Γ hw.2.2 hn.2.2 hc (by omega)
    simp only [E.cty]
    simp only [E.tm, nd]
    refine acl_in Try.func145 rfl isfn_145 (Nat.le_of_ble_eq_true rfl) (fun R hR => ?_); rw [Try.results145] at hR; refine wg_run ?_; (simp only [Try.f145, go_sem])
    repeat' (first | (first | (((first | apply sp1 | apply sp2 | apply sp3 | apply sp4 | apply sp5 | apply sp6 | apply sp7) <;> intro hb) <;> (simp only [go_sem, hb])) | ((first | apply wm_done | apply wt_done | apply wg_run | refine fk ?_ ?_) <;> (simp only [go_sem]))) | (first | (refine wl_next (wg_run ?_); (simp only [go_sem])) | refine wd_rounds 6 ?_) | ((first | refine kdq [] ?_ (hc := h1) | refine kmq [] ?_ (hc := h1) | refine ktq [] ?_ (hc := h1)); rintro _ _ (⟨s, es, rfl, rfl⟩ | ⟨es, y, hy, rfl, rfl⟩) <;> (simp only [go_sem])))
    all_goals rw [es] at hR
    all_goals simp only [] at hR
    all_goals first
      | exact hR _ (rat [] (hK := (.inr ⟨rfl, noTy, by simp [noTy, Ty.size, Ty.sizes], rfl, rfl⟩)))
      | skip
    repeat' (first | (first | (((first | apply sp1 | apply sp2 | apply sp3 | apply sp4 | apply sp5 | apply sp6 | apply sp7) <;> intro hb) <;> (simp only [go_sem, hb])) | ((first | apply wm_done | apply wt_done | apply wg_run | refine fk ?_ ?_) <;> (simp only [go_sem]))) | (first | (refine wl_next (wg_run ?_); (simp only [go_sem])) | refine wd_rounds 6 ?_) | ((first | refine kdq [] ?_ (hc := h2) | refine kmq [] ?_ (hc := h2) | refine ktq [] ?_ (hc := h2)); rintro _ _ (⟨u, eu, rfl, rfl⟩ | ⟨eu, y, hy, rfl, rfl⟩) <;> (simp only [go_sem])))
    all_goals rw [eu] at hR
    all_goals simp only [] at hR
    all_goals first
      | exact hR _ (rat [] (hK := (.inr ⟨rfl, noTy, by simp [noTy, Ty.size, Ty.sizes], rfl, rfl⟩)))
      | skip
    repeat' (first | (first | (((first | apply sp1 | apply sp2 | apply sp3 | apply sp4 | apply sp5 | apply sp6 | apply sp7) <;> intro hb) <;> (simp only [go_sem, hb])) | ((first | apply wm_done | apply wt_done | apply wg_run | refine fk ?_ ?_) <;> (simp only [go_sem]))) | (first | (refine wl_next (wg_run ?_); (simp only [go_sem])) | refine wd_rounds 6 ?_) | ((first | refine kdq [] ?_ (hc := h3) | refine kmq [] ?_ (hc := h3) | refine ktq [] ?_ (hc := h3)); rintro _ _ (⟨w, ew, rfl, rfl⟩ | ⟨ew, y, hy, rfl, rfl⟩) <;> (simp only [go_sem])))
    all_goals rw [ew] at hR
    all_goals simp only [] at hR
    all_goals first
      | exact hR _ (rat [] (hK := (.inr ⟨rfl, noTy, by simp [noTy, Ty.size, Ty.sizes], rfl, rfl⟩)))
      | skip
    have hr := sEx9 (Tm.mk 9 ByteArray.empty 0 noTy noTy 0 [a.tm, b.tm, c.tm]) rfl s u w (a.cty_depth _ _ hw.1 hc es) (b.cty_depth _ _ hw.2.1 hc eu)
    repeat' (first | (first | (((first | apply sp1 | apply sp2 | apply sp3 | apply sp4 | apply sp5 | apply sp6 | apply sp7) <;> intro hb) <;> (simp only [go_sem, hb])) | ((first | apply wm_done | apply wt_done | apply wg_run | refine fk ?_ ?_) <;> (simp only [go_sem]))) | (first | (refine wl_next (wg_run ?_); (simp only [go_sem])) | refine wd_rounds 6 ?_) | ((first | refine kdq [] ?_ (hc := hr) | refine kmq [] ?_ (hc := hr) | refine ktq [] ?_ (hc := hr)); rintro _ _ (⟨v, ev, rfl, rfl⟩ | ⟨ev, y, hy, rfl, rfl⟩) <;> (simp only [go_sem])))
    · exact hR _ (rat [] (hK := (.inl ⟨v, ev, rfl, rfl⟩)))
    · exact hR _ (rat [] (hK := (.inr ⟨ev, y, hy, rfl, rfl⟩)))
  | pair a b iha ihb =>
    intro Γ hw hn hc hl
    simp only [E.wf, Bool.and_eq_true] at hw
    simp only [E.noA, Bool.and_eq_true] at hn
    simp only [E.nodes] at hl
    have h1 := iha Γ hw.1 hn.1 hc (by omega)
    have h2 := ihb Γ hw.2 hn.2 hc (by omega)
    simp only [E.cty]
    simp only [E.tm, nd]
    refine acl_in Try.func145 rfl isfn_145 (Nat.le_of_ble_eq_true rfl) (fun R hR => ?_); rw [Try.results145] at hR; refine wg_run ?_; (simp only [Try.f145, go_sem])
    repeat' (first | (first | (((first | apply sp1 | apply sp2 | apply sp3 | apply sp4 | apply sp5 | apply sp6 | apply sp7) <;> intro hb) <;> (simp only [go_sem, hb])) | ((first | apply wm_done | apply wt_done | apply wg_run | refine fk ?_ ?_) <;> (simp only [go_sem]))) | (first | (refine wl_next (wg_run ?_); (simp only [go_sem])) | refine wd_rounds 6 ?_) | ((first | refine kdq [] ?_ (hc := h1) | refine kmq [] ?_ (hc := h1) | refine ktq [] ?_ (hc := h1)); rintro _ _ (⟨s, es, rfl, rfl⟩ | ⟨es, y, hy, rfl, rfl⟩) <;> (simp only [go_sem])))
    all_goals rw [es] at hR
    all_goals simp only [] at hR
    all_goals first
      | exact hR _ (rat [] (hK := (.inr ⟨rfl, noTy, by simp [noTy, Ty.size, Ty.sizes], rfl, rfl⟩)))
      | skip
    repeat' (first | (first | (((first | apply sp1 | apply sp2 | apply sp3 | apply sp4 | apply sp5 | apply sp6 | apply sp7) <;> intro hb) <;> (simp only [go_sem, hb])) | ((first | apply wm_done | apply wt_done | apply wg_run | refine fk ?_ ?_) <;> (simp only [go_sem]))) | (first | (refine wl_next (wg_run ?_); (simp only [go_sem])) | refine wd_rounds 6 ?_) | ((first | refine kdq [] ?_ (hc := h2) | refine kmq [] ?_ (hc := h2) | refine ktq [] ?_ (hc := h2)); rintro _ _ (⟨u, eu, rfl, rfl⟩ | ⟨eu, y, hy, rfl, rfl⟩) <;> (simp only [go_sem])))
    all_goals rw [eu] at hR
    all_goals simp only [] at hR
    all_goals first
      | exact hR _ (rat [] (hK := (.inr ⟨rfl, noTy, by simp [noTy, Ty.size, Ty.sizes], rfl, rfl⟩)))
      | skip
    have hr := sEx10 (Tm.mk 10 ByteArray.empty 0 noTy noTy 0 [a.tm, b.tm]) rfl s u (a.cty_depth _ _ hw.1 hc es) (b.cty_depth _ _ hw.2 hc eu)
    repeat' (first | (first | (((first | apply sp1 | apply sp2 | apply sp3 | apply sp4 | apply sp5 | apply sp6 | apply sp7) <;> intro hb) <;> (simp only [go_sem, hb])) | ((first | apply wm_done | apply wt_done | apply wg_run | refine fk ?_ ?_) <;> (simp only [go_sem]))) | (first | (refine wl_next (wg_run ?_); (simp only [go_sem])) | refine wd_rounds 6 ?_) | ((first | refine kdq [] ?_ (hc := hr) | refine kmq [] ?_ (hc := hr) | refine ktq [] ?_ (hc := hr)); rintro _ _ (⟨v, ev, rfl, rfl⟩ | ⟨ev, y, hy, rfl, rfl⟩) <;> (simp only [go_sem])))
    · exact hR _ (rat [] (hK := (.inl ⟨v, ev, rfl, rfl⟩)))
    · exact hR _ (rat [] (hK := (.inr ⟨ev, y, hy, rfl, rfl⟩)))
  | fst a iha =>
    intro Γ hw hn hc hl
    simp only [E.wf] at hw
    simp only [E.noA] at hn
    simp only [E.nodes] at hl
    have h1 := iha Γ hw hn hc (by omega)
    simp only [E.cty]
    simp only [E.tm, nd]
    refine acl_in Try.func145 rfl isfn_145 (Nat.le_of_ble_eq_true rfl) (fun R hR => ?_); rw [Try.results145] at hR; refine wg_run ?_; (simp only [Try.f145, go_sem])
    repeat' (first | (first | (((first | apply sp1 | apply sp2 | apply sp3 | apply sp4 | apply sp5 | apply sp6 | apply sp7) <;> intro hb) <;> (simp only [go_sem, hb])) | ((first | apply wm_done | apply wt_done | apply wg_run | refine fk ?_ ?_) <;> (simp only [go_sem]))) | (first | (refine wl_next (wg_run ?_); (simp only [go_sem])) | refine wd_rounds 6 ?_) | ((first | refine kdq [] ?_ (hc := h1) | refine kmq [] ?_ (hc := h1) | refine ktq [] ?_ (hc := h1)); rintro _ _ (⟨s, es, rfl, rfl⟩ | ⟨es, y, hy, rfl, rfl⟩) <;> (simp only [go_sem])))
    all_goals rw [es] at hR
    all_goals simp only [] at hR
    all_goals first
      | exact hR _ (rat [] (hK := (.inr ⟨rfl, noTy, by simp [noTy, Ty.size, Ty.sizes], rfl, rfl⟩)))
      | skip
    have hr := sEx11 (Tm.mk 11 ByteArray.empty 0 noTy noTy 0 [a.tm]) rfl s (a.cty_depth _ _ hw hc es)
    repeat' (first | (first | (((first | apply sp1 | apply sp2 | apply sp3 | apply sp4 | apply sp5 | apply sp6 | apply sp7) <;> intro hb) <;> (simp only [go_sem, hb])) | ((first | apply wm_done | apply wt_done | apply wg_run | refine fk ?_ ?_) <;> (simp only [go_sem]))) | (first | (refine wl_next (wg_run ?_); (simp only [go_sem])) | refine wd_rounds 6 ?_) | ((first | refine kdq [] ?_ (hc := hr) | refine kmq [] ?_ (hc := hr) | refine ktq [] ?_ (hc := hr)); rintro _ _ (⟨v, ev, rfl, rfl⟩ | ⟨ev, y, hy, rfl, rfl⟩) <;> (simp only [go_sem])))
    · exact hR _ (rat [] (hK := (.inl ⟨v, ev, rfl, rfl⟩)))
    · exact hR _ (rat [] (hK := (.inr ⟨ev, y, hy, rfl, rfl⟩)))
  | snd a iha =>
    intro Γ hw hn hc hl
    simp only [E.wf] at hw
    simp only [E.noA] at hn
    simp only [E.nodes] at hl
    have h1 := iha Γ hw hn hc (by omega)
    simp only [E.cty]
    simp only [E.tm, nd]
    refine acl_in Try.func145 rfl isfn_145 (Nat.le_of_ble_eq_true rfl) (fun R hR => ?_); rw [Try.results145] at hR; refine wg_run ?_; (simp only [Try.f145, go_sem])
    repeat' (first | (first | (((first | apply sp1 | apply sp2 | apply sp3 | apply sp4 | apply sp5 | apply sp6 | apply sp7) <;> intro hb) <;> (simp only [go_sem, hb])) | ((first | apply wm_done | apply wt_done | apply wg_run | refine fk ?_ ?_) <;> (simp only [go_sem]))) | (first | (refine wl_next (wg_run ?_); (simp only [go_sem])) | refine wd_rounds 6 ?_) | ((first | refine kdq [] ?_ (hc := h1) | refine kmq [] ?_ (hc := h1) | refine ktq [] ?_ (hc := h1)); rintro _ _ (⟨s, es, rfl, rfl⟩ | ⟨es, y, hy, rfl, rfl⟩) <;> (simp only [go_sem])))
    all_goals rw [es] at hR
    all_goals simp only [] at hR
    all_goals first
      | exact hR _ (rat [] (hK := (.inr ⟨rfl, noTy, by simp [noTy, Ty.size, Ty.sizes], rfl, rfl⟩)))
      | skip
    have hr := sEx12 (Tm.mk 12 ByteArray.empty 0 noTy noTy 0 [a.tm]) rfl s (a.cty_depth _ _ hw hc es)
    repeat' (first | (first | (((first | apply sp1 | apply sp2 | apply sp3 | apply sp4 | apply sp5 | apply sp6 | apply sp7) <;> intro hb) <;> (simp only [go_sem, hb])) | ((first | apply wm_done | apply wt_done | apply wg_run | refine fk ?_ ?_) <;> (simp only [go_sem]))) | (first | (refine wl_next (wg_run ?_); (simp only [go_sem])) | refine wd_rounds 6 ?_) | ((first | refine kdq [] ?_ (hc := hr) | refine kmq [] ?_ (hc := hr) | refine ktq [] ?_ (hc := hr)); rintro _ _ (⟨v, ev, rfl, rfl⟩ | ⟨ev, y, hy, rfl, rfl⟩) <;> (simp only [go_sem])))
    · exact hR _ (rat [] (hK := (.inl ⟨v, ev, rfl, rfl⟩)))
    · exact hR _ (rat [] (hK := (.inr ⟨ev, y, hy, rfl, rfl⟩)))
  | asc t a ih => intro Γ hw hn hc hl; simp [E.noA] at hn
  | cast s t l a iha =>
    intro Γ hw hn hc hl
    simp only [E.wf, Bool.and_eq_true, decide_eq_true_eq] at hw
    simp only [E.noA] at hn
    simp only [E.nodes] at hl
    have h1 := iha Γ hw.2.2.2 hn hc (by omega)
    simp only [E.cty]
    simp only [E.tm]
    refine acl_in Try.func145 rfl isfn_145 (Nat.le_of_ble_eq_true rfl) (fun R hR => ?_); rw [Try.results145] at hR; refine wg_run ?_; (simp only [Try.f145, go_sem])
    repeat' (first | (first | (((first | apply sp1 | apply sp2 | apply sp3 | apply sp4 | apply sp5 | apply sp6 | apply sp7) <;> intro hb) <;> (simp only [go_sem, hb])) | ((first | apply wm_done | apply wt_done | apply wg_run | refine fk ?_ ?_) <;> (simp only [go_sem]))) | (first | (refine wl_next (wg_run ?_); (simp only [go_sem])) | refine wd_rounds 6 ?_) | ((first | refine kdq [] ?_ (hc := h1) | refine kmq [] ?_ (hc := h1) | refine ktq [] ?_ (hc := h1)); rintro _ _ (⟨u, eu, rfl, rfl⟩ | ⟨eu, y, hy, rfl, rfl⟩) <;> (simp only [go_sem])))
    all_goals rw [eu] at hR
    all_goals simp only [] at hR
    all_goals first
      | exact hR _ (rat [] (hK := (.inr ⟨rfl, noTy, by simp [noTy, Ty.size, Ty.sizes], rfl, rfl⟩)))
      | skip
    have hr := sEx14 a s t l u (a.cty_depth _ _ hw.2.2.2 hc eu) hw.1.2
    simp only [E.tm] at hr
    repeat' (first | (first | (((first | apply sp1 | apply sp2 | apply sp3 | apply sp4 | apply sp5 | apply sp6 | apply sp7) <;> intro hb) <;> (simp only [go_sem, hb])) | ((first | apply wm_done | apply wt_done | apply wg_run | refine fk ?_ ?_) <;> (simp only [go_sem]))) | (first | (refine wl_next (wg_run ?_); (simp only [go_sem])) | refine wd_rounds 6 ?_) | ((first | refine kdq [] ?_ (hc := hr) | refine kmq [] ?_ (hc := hr) | refine ktq [] ?_ (hc := hr)); rintro _ _ (⟨v, ev, rfl, rfl⟩ | ⟨ev, y, hy, rfl, rfl⟩) <;> (simp only [go_sem])))
    · exact hR _ (rat [] (hK := (.inl ⟨v, ev, rfl, rfl⟩)))
    · exact hR _ (rat [] (hK := (.inr ⟨ev, y, hy, rfl, rfl⟩)))
/-- a type and true, or the zero value and false -/
def TyS (o : Option T) (r : AV) (H' : List Blk) : Prop := (∃ t, o = some t ∧ t.depth ≤ 4 ∧ r = .tup [.agg (tyC t.ty), .one (.sc (.bool true))] ∧ H' = []) ∨ (o = none ∧ r = .tup [.agg (tyC noTy), .one (.sc (.bool false))] ∧ H' = [])
theorem sCastTypeOf (t : Tm) (hz : t.size < 4611686018427387904) : ACl Try.prog 108 [.agg (teC t)] [] (TyS t.ctype) := by
  have hv := sCastV t hz
  have hT := l3SureT
  have hF := l3SureF
  cases hb : t.castV
  · rw [hb] at hv
    rw [Tm.ctype_bad hb]
    refine acl_in Try.func108 rfl isfn_108 (Nat.le_of_ble_eq_true rfl) (fun R hR => ?_); rw [Try.results108] at hR; refine wg_run ?_; (simp only [Try.f108, go_sem])
    repeat' (first | (first | (((first | apply sp1 | apply sp2 | apply sp3 | apply sp4 | apply sp5 | apply sp6 | apply sp7) <;> intro hb) <;> (simp only [go_sem, hb])) | ((first | apply wm_done | apply wt_done | apply wg_run | refine fk ?_ ?_) <;> (simp only [go_sem]))) | (first | refine cdq ?_ (hc := hv) | refine cmq ?_ (hc := hv) | refine ctq ?_ (hc := hv)); (simp only [go_sem]) | fail)
    exact hR _ (rat [] (hK := (.inr ⟨rfl, rfl, rfl⟩)))
  · rw [hb] at hv
    obtain ⟨e, rfl, he⟩ := Tm.castV_E hb
    rw [Tm.ctype_E he]
    simp only [E.okC, Bool.and_eq_true, decide_eq_true_eq] at he
    have h1 := l4Type e [] he.1 he.2.1 ctxOk_nil (by simp; omega)
    have hd := e.cty_depth []
    refine acl_in Try.func108 rfl isfn_108 (Nat.le_of_ble_eq_true rfl) (fun R hR => ?_); rw [Try.results108] at hR; refine wg_run ?_; (simp only [Try.f108, go_sem])
    repeat' (first | (first | (((first | apply sp1 | apply sp2 | apply sp3 | apply sp4 | apply sp5 | apply sp6 | apply sp7) <;> intro hb) <;> (simp only [go_sem, hb])) | ((first | apply wm_done | apply wt_done | apply wg_run | refine fk ?_ ?_) <;> (simp only [go_sem]))) | (first | refine cdq ?_ (hc := hv) | refine cmq ?_ (hc := hv) | refine ctq ?_ (hc := hv)); (simp only [go_sem]) | ((first | refine kdq [] ?_ (hc := h1) | refine kmq [] ?_ (hc := h1) | refine ktq [] ?_ (hc := h1)); rintro _ _ (⟨u, eu, rfl, rfl⟩ | ⟨eu, y, hy, rfl, rfl⟩) <;> (simp only [go_sem])) | fail)
    · repeat' (first | (first | (((first | apply sp1 | apply sp2 | apply sp3 | apply sp4 | apply sp5 | apply sp6 | apply sp7) <;> intro hb) <;> (simp only [go_sem, hb])) | ((first | apply wm_done | apply wt_done | apply wg_run | refine fk ?_ ?_) <;> (simp only [go_sem]))) | (first | refine cdq ?_ (hc := hT _) | refine cmq ?_ (hc := hT _) | refine ctq ?_ (hc := hT _)); (simp only [go_sem]) | fail)
      exact hR _ (rat [] (hK := (.inl ⟨u, eu, hd u he.1 ctxOk_nil eu, rfl, rfl⟩)))
    · repeat' (first | (first | (((first | apply sp1 | apply sp2 | apply sp3 | apply sp4 | apply sp5 | apply sp6 | apply sp7) <;> intro hb) <;> (simp only [go_sem, hb])) | ((first | apply wm_done | apply wt_done | apply wg_run | refine fk ?_ ?_) <;> (simp only [go_sem]))) | (first | refine cdq ?_ (hc := hF _) | refine cmq ?_ (hc := hF _) | refine ctq ?_ (hc := hF _)); (simp only [go_sem]) | fail)
      exact hR _ (rat [] (hK := (.inr ⟨eu, rfl, rfl⟩)))
end Go.Proofs.Ytnaebafafhamjaa
