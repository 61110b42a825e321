/- Texts of the proof, one behind another. -/
import Derived.Test.YtjmicohbnpbemaaGreatKE17
import Derived.Test.YtjmicohbnpbemaaGreatKE32
set_option linter.unusedSimpArgs false
set_option linter.unusedVariables false
/- Typing of terms with casts, in the program. On shadows. -/
namespace Go.Proofs.YtjmicohbnpbemaaGreat
open Go.RowKit Go.Proofs.Sh Go.Proofs.Grad
set_option maxRecDepth 100000
set_option maxHeartbeats 8000000
/-- a contract for a slice without elements, from one for each such value -/
theorem acl_empty {P : Program} {f : FuncId} {H : List Blk} {K : AV → List Blk → Prop} (h : ∀ p c, ACl P f [.one (.sc (.slice p 0 c))] H K) : ACl P f [.one (.sl [])] H K := by
  refine ⟨⟨(h none 0).out.1, fun X μ w vs hS hr => ?_⟩⟩
  simp only [AV.repl, AV.rep, C.rep] at hr
  obtain ⟨u, us, e1, ⟨p, cap, rfl, h1, h2, h3⟩, rfl⟩ := hr
  refine (h p cap).out.2 X μ w vs hS ?_
  simp only [AV.repl, AV.rep, C.rep]
  exact ⟨_, _, e1, ⟨rfl, rfl⟩, rfl⟩
@[go_sem] theorem isNone_some {α : Type} (x : α) : (some x).isNone = false := rfl
@[go_sem] theorem isNone_none {α : Type} : (none : Option α).isNone = true := rfl
/-- a clone: own, or nothing -/
def CloneB (Γ : Ctx) (r : AV) (H' : List Blk) : Prop := (Γ = [] ∧ r = .one (.sc (.slice none 0 0)) ∧ H' = []) ∨ (r = .one (.row 3 0 Γ.length) ∧ H' = [⟨3, 77, .mut, bdR Γ⟩])
theorem cloneB (Γ : Ctx) (hl : Γ.length < 100000) : ACl Tryz.prog 74 [.one (.sl (bdR Γ))] [] (CloneB Γ) := by
  cases Γ with
  | nil =>
    refine acl_empty fun p c => ?_
    cases p with
    | none =>
      refine acl_in Tryz.func74 rfl isfn_74 (Nat.le_of_ble_eq_true rfl) (fun R hR => ?_); rw [Tryz.results74] at hR; refine wg_run ?_; (simp only [Tryz.f74, go_sem])
      repeat' (first | (first | (((first | apply sp1 | apply sp2 | apply sp3 | apply sp4 | apply sp5 | apply sp6 | apply sp7) <;> intro hb) <;> (simp only [go_sem, hb])) | ((first | apply wm_done | apply wt_done | apply wg_run | refine fk ?_ ?_) <;> (simp only [go_sem]))) | ((first | refine mxq6 [] ?_ | refine mxq5 [] ?_ | refine mxq4 [] ?_ | refine mxq3 [] ?_ | refine mxq2 [] ?_ | refine mxq1 [] ?_ | refine mxq0 [] ?_ | fail); (simp only [go_sem])) | fail)
      exact hR _ (rwn [] (hK := (.inl ⟨rfl, rfl, rfl⟩)))
    | some q =>
      refine acl_in Tryz.func74 rfl isfn_74 (Nat.le_of_ble_eq_true rfl) (fun R hR => ?_); rw [Tryz.results74] at hR; refine wg_run ?_; (simp only [Tryz.f74, go_sem])
      repeat' (first | (first | (((first | apply sp1 | apply sp2 | apply sp3 | apply sp4 | apply sp5 | apply sp6 | apply sp7) <;> intro hb) <;> (simp only [go_sem, hb])) | ((first | apply wm_done | apply wt_done | apply wg_run | refine fk ?_ ?_) <;> (simp only [go_sem]))) | ((first | refine mxq6 [] ?_ | refine mxq5 [] ?_ | refine mxq4 [] ?_ | refine mxq3 [] ?_ | refine mxq2 [] ?_ | refine mxq1 [] ?_ | refine mxq0 [] ?_ | fail); (simp only [go_sem])) | fail)
      exact hR _ (rwn [0] (hK := (.inr ⟨rfl, rfl⟩)))
  | cons b Γ =>
    simp only [List.length_cons] at hl
    have hcap : (Γ.length + 1) * 48 ≤ 140737488355328 := by omega
    refine acl_in Tryz.func74 rfl isfn_74 (Nat.le_of_ble_eq_true rfl) (fun R hR => ?_); rw [Tryz.results74] at hR; refine wg_run ?_; (simp only [Tryz.f74, go_sem, hcap])
    repeat' (first | (first | (simp only [go_sem, hcap]) | (((first | apply sp1 | apply sp2 | apply sp3 | apply sp4 | apply sp5 | apply sp6 | apply sp7) <;> intro hb) <;> (simp only [go_sem, hb, hcap])) | ((first | apply wm_done | apply wt_done | apply wg_run | refine fk ?_ ?_) <;> (simp only [go_sem, hcap]))) | ((first | refine mxq6 [] ?_ | refine mxq5 [] ?_ | refine mxq4 [] ?_ | refine mxq3 [] ?_ | refine mxq2 [] ?_ | refine mxq1 [] ?_ | refine mxq0 [] ?_ | fail); (simp only [go_sem, hcap])) | fail)
    exact hR _ (rwn [1] (hK := (.inr ⟨rfl, rfl⟩)))
/-- a type and true, or something and false -/
def TyI (o : Option T) (r : AV) (H' : List Blk) : Prop := (∃ t, o = some t ∧ r = .tup [.agg (tyC t.ty), .one (.sc (.bool true))] ∧ H' = []) ∨ (o = none ∧ ∃ y : Ty, r = .tup [.agg (tyC y), .one (.sc (.bool false))] ∧ H' = [])
theorem iSameT {a b : T} (ha : a.depth ≤ 4) : AFn Tryz.prog 33 [.agg (tyC a.ty), .agg (tyC b.ty)] (.one (.sc (.bool (a.eqb b)))) := iSame 1000 (by omega) a.ty b.ty (T.ty_small ha)
theorem iCastType (e : E) : ∀ Γ : Ctx, e.wf = true → e.noA = true → ctxOk Γ → Γ.length + e.nodes < 50000 → ACl Tryz.prog 40 [.one (.sl (bdR Γ)), .agg (teC e.tm)] [] (TyI (e.cty Γ)) := by
  induction e with
  | var x =>
    intro Γ hw hn hc hl
    have h1 := iW1 Γ (by omega) x
    simp only [E.cty]
    cases eo : look1 Γ x with
    | none =>
      rw [eo] at h1
      simp only [wT, E.tm] at h1 ⊢
      refine acl_in Tryz.func40 rfl isfn_40 (Nat.le_of_ble_eq_true rfl) (fun R hR => ?_); rw [Tryz.results40] at hR; refine wg_run ?_; (simp only [Tryz.f40, go_sem])
      repeat' (first | (first | (((first | apply sp1 | apply sp2 | apply sp3 | apply sp4 | apply sp5 | apply sp6 | apply sp7) <;> intro hb) <;> (simp only [go_sem, hb])) | ((first | apply wm_done | apply wt_done | apply wg_run | refine fk ?_ ?_) <;> (simp only [go_sem]))) | (first | (refine wl_next (wg_run ?_); (simp only [go_sem])) | refine wd_rounds 6 ?_) | ((first | refine mxq6 [] ?_ | refine mxq5 [] ?_ | refine mxq4 [] ?_ | refine mxq3 [] ?_ | refine mxq2 [] ?_ | refine mxq1 [] ?_ | refine mxq0 [] ?_ | fail); (simp only [go_sem])) | (first | refine cdq ?_ (hc := h1) | refine cmq ?_ (hc := h1) | refine ctq ?_ (hc := h1)); (simp only [go_sem]) | fail)
      exact hR _ (rat [] (hK := (.inr ⟨rfl, noTy, rfl, rfl⟩)))
    | some t =>
      rw [eo] at h1
      have hd := look1_depth hc eo
      have hv := iValid t.ty
      rw [T.valid_ty, show decide (t.depth ≤ 4) = true by simpa using hd] at hv
      simp only [wT, E.tm] at h1 ⊢
      refine acl_in Tryz.func40 rfl isfn_40 (Nat.le_of_ble_eq_true rfl) (fun R hR => ?_); rw [Tryz.results40] at hR; refine wg_run ?_; (simp only [Tryz.f40, go_sem])
      repeat' (first | (first | (((first | apply sp1 | apply sp2 | apply sp3 | apply sp4 | apply sp5 | apply sp6 | apply sp7) <;> intro hb) <;> (simp only [go_sem, hb])) | ((first | apply wm_done | apply wt_done | apply wg_run | refine fk ?_ ?_) <;> (simp only [go_sem]))) | (first | (refine wl_next (wg_run ?_); (simp only [go_sem])) | refine wd_rounds 6 ?_) | ((first | refine mxq6 [] ?_ | refine mxq5 [] ?_ | refine mxq4 [] ?_ | refine mxq3 [] ?_ | refine mxq2 [] ?_ | refine mxq1 [] ?_ | refine mxq0 [] ?_ | fail); (simp only [go_sem])) | (first | refine cdq ?_ (hc := h1) | refine cmq ?_ (hc := h1) | refine ctq ?_ (hc := h1)); (simp only [go_sem]) | (first | refine cdq ?_ (hc := hv) | refine cmq ?_ (hc := hv) | refine ctq ?_ (hc := hv)); (simp only [go_sem]) | fail)
      exact hR _ (rat [] (hK := (.inl ⟨t, rfl, rfl, rfl⟩)))
  | num n =>
    intro Γ hw hn hc hl
    have h1 := iW2 Γ n
    have hv := iValid T.int.ty
    rw [T.valid_ty, show decide (T.int.depth ≤ 4) = true by decide] at hv
    simp only [E.cty]
    simp only [wT, E.tm] at h1 ⊢
    refine acl_in Tryz.func40 rfl isfn_40 (Nat.le_of_ble_eq_true rfl) (fun R hR => ?_); rw [Tryz.results40] at hR; refine wg_run ?_; (simp only [Tryz.f40, go_sem])
    repeat' (first | (first | (((first | apply sp1 | apply sp2 | apply sp3 | apply sp4 | apply sp5 | apply sp6 | apply sp7) <;> intro hb) <;> (simp only [go_sem, hb])) | ((first | apply wm_done | apply wt_done | apply wg_run | refine fk ?_ ?_) <;> (simp only [go_sem]))) | (first | (refine wl_next (wg_run ?_); (simp only [go_sem])) | refine wd_rounds 6 ?_) | ((first | refine mxq6 [] ?_ | refine mxq5 [] ?_ | refine mxq4 [] ?_ | refine mxq3 [] ?_ | refine mxq2 [] ?_ | refine mxq1 [] ?_ | refine mxq0 [] ?_ | fail); (simp only [go_sem])) | (first | refine cdq ?_ (hc := h1) | refine cmq ?_ (hc := h1) | refine ctq ?_ (hc := h1)); (simp only [go_sem]) | (first | refine cdq ?_ (hc := hv) | refine cmq ?_ (hc := hv) | refine ctq ?_ (hc := hv)); (simp only [go_sem]) | fail)
    exact hR _ (rat [] (hK := (.inl ⟨.int, rfl, rfl, rfl⟩)))
  | tru | fls =>
    intro Γ hw hn hc hl
    have h1 := iW3 Γ _ (.inl rfl)
    have h2 := iW3 Γ _ (.inr rfl)
    have hv := iValid T.bool.ty
    rw [T.valid_ty, show decide (T.bool.depth ≤ 4) = true by decide] at hv
    simp only [E.cty]
    simp only [wT, E.tm, nd] at h1 h2 ⊢
    refine acl_in Tryz.func40 rfl isfn_40 (Nat.le_of_ble_eq_true rfl) (fun R hR => ?_); rw [Tryz.results40] at hR; refine wg_run ?_; (simp only [Tryz.f40, go_sem])
    repeat' (first | (first | (((first | apply sp1 | apply sp2 | apply sp3 | apply sp4 | apply sp5 | apply sp6 | apply sp7) <;> intro hb) <;> (simp only [go_sem, hb])) | ((first | apply wm_done | apply wt_done | apply wg_run | refine fk ?_ ?_) <;> (simp only [go_sem]))) | (first | (refine wl_next (wg_run ?_); (simp only [go_sem])) | refine wd_rounds 6 ?_) | ((first | refine mxq6 [] ?_ | refine mxq5 [] ?_ | refine mxq4 [] ?_ | refine mxq3 [] ?_ | refine mxq2 [] ?_ | refine mxq1 [] ?_ | refine mxq0 [] ?_ | fail); (simp only [go_sem])) | (first | refine cdq ?_ (hc := h1) | refine cmq ?_ (hc := h1) | refine ctq ?_ (hc := h1)); (simp only [go_sem]) | (first | refine cdq ?_ (hc := h2) | refine cmq ?_ (hc := h2) | refine ctq ?_ (hc := h2)); (simp only [go_sem]) | (first | refine cdq ?_ (hc := hv) | refine cmq ?_ (hc := hv) | refine ctq ?_ (hc := hv)); (simp only [go_sem]) | fail)
    exact hR _ (rat [] (hK := (.inl ⟨.bool, rfl, rfl, rfl⟩)))
  | lam x t a ih =>
    intro Γ hw hn hc hl
    simp only [E.wf, Bool.and_eq_true, decide_eq_true_eq] at hw
    simp only [E.noA] at hn
    simp only [E.nodes] at hl
    have hcl := cloneB Γ (by omega)
    have hc2 := ctxOk_snoc (x := x) hc hw.2.1
    have h1 := ih (Γ ++ [(x, t)]) hw.2.2 hn hc2 (by simp; omega)
    rw [bdR_snoc, show bdC (x, t) = .sc (.string (nm x)) :: tyC t.ty from rfl] at h1
    have hdep := a.cty_depth (Γ ++ [(x, t)])
    have hw5 := fun u => iW5 Γ x t a u
    have hL : ∀ (Γ' : Ctx) (u : T), a.cty (Γ' ++ [(x, t)]) = some u → (E.lam x t a).cty Γ' = (match decide ((T.fn t u).depth ≤ 4) with | true => some (.fn t u) | false => none) := fun Γ' u e => by simp only [E.cty, e]; rfl
    have hcap : (Γ.length + 1) * 48 ≤ 140737488355328 := by omega
    simp only [wT, E.tm] at hw5 ⊢
    refine acl_in Tryz.func40 rfl isfn_40 (Nat.le_of_ble_eq_true rfl) (fun R hR => ?_); rw [Tryz.results40] at hR; refine wg_run ?_; (simp only [Tryz.f40, go_sem, hcap])
    repeat' (first | (first | (simp only [go_sem, hcap]) | (((first | apply sp1 | apply sp2 | apply sp3 | apply sp4 | apply sp5 | apply sp6 | apply sp7) <;> intro hb) <;> (simp only [go_sem, hb, hcap])) | ((first | apply wm_done | apply wt_done | apply wg_run | refine fk ?_ ?_) <;> (simp only [go_sem, hcap]))) | (first | (refine wl_next (wg_run ?_); (simp only [go_sem])) | refine wd_rounds 6 ?_) | (first | (refine tr (.op 0 false (.op 2 false (.op 3 false (.op 4 false (.op 5 false (.op 6 false (.fork 1 false (.op 7 true (.op 8 true (.op 9 false .nil))) (.op 7 true (.op 1 false (.op 8 true (.op 9 false .nil))))))))))) [] follows ?_; (simp only [go_sem, hcap])) | fail) | ((first | refine kdq [] ?_ (hc := hcl) | refine kmq [] ?_ (hc := hcl) | refine ktq [] ?_ (hc := hcl)); rintro _ _ (⟨rfl, rfl, rfl⟩ | ⟨rfl, rfl⟩) <;> (simp only [go_sem])) | fail)
    all_goals ((first | refine kdq [] ?_ (hc := h1) | refine kmq [] ?_ (hc := h1) | refine ktq [] ?_ (hc := h1)); rintro _ _ (⟨u, eu, rfl, rfl⟩ | ⟨eu, y, rfl, rfl⟩) <;> (simp only [go_sem]))
    all_goals first
      | exact hR _ (rat [] (hK := (.inr ⟨by simp only [E.cty, eu], noTy, rfl, rfl⟩)))
      | skip
    all_goals
      have hW := hw5 u
      have hv := iValid (T.fn t u).ty
      rw [T.valid_ty] at hv
      cases e1 : decide ((T.fn t u).depth ≤ 4)
      all_goals
        rw [e1] at hv
        repeat' (first | (first | (((first | apply sp1 | apply sp2 | apply sp3 | apply sp4 | apply sp5 | apply sp6 | apply sp7) <;> intro hb) <;> (simp only [go_sem, hb])) | ((first | apply wm_done | apply wt_done | apply wg_run | refine fk ?_ ?_) <;> (simp only [go_sem]))) | (first | (refine wl_next (wg_run ?_); (simp only [go_sem])) | refine wd_rounds 6 ?_) | ((first | refine mxq6 [] ?_ | refine mxq5 [] ?_ | refine mxq4 [] ?_ | refine mxq3 [] ?_ | refine mxq2 [] ?_ | refine mxq1 [] ?_ | refine mxq0 [] ?_ | fail); (simp only [go_sem])) | (first | refine cdq ?_ (hc := hW) | refine cmq ?_ (hc := hW) | refine ctq ?_ (hc := hW)); (simp only [go_sem]) | (first | refine cdq ?_ (hc := hv) | refine cmq ?_ (hc := hv) | refine ctq ?_ (hc := hv)); (simp only [go_sem]) | fail)
        first
          | exact hR _ (rat [] (hK := (.inr ⟨by rw [hL _ _ eu, e1], noTy, rfl, rfl⟩)))
          | exact hR _ (rat [] (hK := (.inl ⟨.fn t u, by rw [hL _ _ eu, e1], rfl, rfl⟩)))
  | app a b iha ihb =>
    intro Γ hw hn hc hl
    simp only [E.wf, Bool.and_eq_true] at hw
    simp only [E.noA, Bool.and_eq_true] at hn
    simp only [E.nodes] at hl
    have h1 := iha Γ hw.1 hn.1 hc (by omega)
    have h2 := ihb Γ hw.2 hn.2 hc (by omega)
    have d1 := fun t => a.cty_depth Γ t hw.1 hc
    have d2 := fun t => b.cty_depth Γ t hw.2 hc
    simp only [E.tm, nd]
    refine acl_in Tryz.func40 rfl isfn_40 (Nat.le_of_ble_eq_true rfl) (fun R hR => ?_); rw [Tryz.results40] at hR; refine wg_run ?_; (simp only [Tryz.f40, go_sem])
    repeat' (first | (first | (((first | apply sp1 | apply sp2 | apply sp3 | apply sp4 | apply sp5 | apply sp6 | apply sp7) <;> intro hb) <;> (simp only [go_sem, hb])) | ((first | apply wm_done | apply wt_done | apply wg_run | refine fk ?_ ?_) <;> (simp only [go_sem]))) | (first | (refine wl_next (wg_run ?_); (simp only [go_sem])) | refine wd_rounds 6 ?_) | ((first | refine kdq [] ?_ (hc := h1) | refine kmq [] ?_ (hc := h1) | refine ktq [] ?_ (hc := h1)); rintro _ _ (⟨s, es, rfl, rfl⟩ | ⟨es, y, rfl, rfl⟩) <;> (simp only [go_sem])))
    all_goals first
      | exact hR _ (rat [] (hK := (.inr ⟨by simp only [E.cty, es], noTy, rfl, rfl⟩)))
      | skip
    repeat' (first | (first | (((first | apply sp1 | apply sp2 | apply sp3 | apply sp4 | apply sp5 | apply sp6 | apply sp7) <;> intro hb) <;> (simp only [go_sem, hb])) | ((first | apply wm_done | apply wt_done | apply wg_run | refine fk ?_ ?_) <;> (simp only [go_sem]))) | (first | (refine wl_next (wg_run ?_); (simp only [go_sem])) | refine wd_rounds 6 ?_) | ((first | refine kdq [] ?_ (hc := h2) | refine kmq [] ?_ (hc := h2) | refine ktq [] ?_ (hc := h2)); rintro _ _ (⟨u, eu, rfl, rfl⟩ | ⟨eu, y, rfl, rfl⟩) <;> (simp only [go_sem])))
    all_goals first
      | exact hR _ (rat [] (hK := (.inr ⟨by simp only [E.cty, es, eu], noTy, rfl, rfl⟩)))
      | skip
    have ds := d1 s es
    have du := d2 u eu
    have hW := iW6 Γ a b s u du
    simp only [E.tm, nd] at hW
    cases em : s.mfn with
    | none =>
      rw [em] at hW
      have hE : (E.app a b).cty Γ = cApp s u := by simp only [E.cty, es, eu]
      rw [cApp_none em] at hE
      simp only [wT] at hW
      repeat' (first | (first | (((first | apply sp1 | apply sp2 | apply sp3 | apply sp4 | apply sp5 | apply sp6 | apply sp7) <;> intro hb) <;> (simp only [go_sem, hb])) | ((first | apply wm_done | apply wt_done | apply wg_run | refine fk ?_ ?_) <;> (simp only [go_sem]))) | (first | (refine wl_next (wg_run ?_); (simp only [go_sem])) | refine wd_rounds 6 ?_) | ((first | refine mxq6 [] ?_ | refine mxq5 [] ?_ | refine mxq4 [] ?_ | refine mxq3 [] ?_ | refine mxq2 [] ?_ | refine mxq1 [] ?_ | refine mxq0 [] ?_ | fail); (simp only [go_sem])) | (first | refine cdq ?_ (hc := hW) | refine cmq ?_ (hc := hW) | refine ctq ?_ (hc := hW)); (simp only [go_sem]) | fail)
      exact hR _ (rat [] (hK := (.inr ⟨by first | (rw [hE]; done) | (rw [hE]; simp [*]; done), noTy, rfl, rfl⟩)))
    | some pq =>
      obtain ⟨p, q⟩ := pq
      rw [em] at hW
      have hE : (E.app a b).cty Γ = cApp s u := by simp only [E.cty, es, eu]
      rw [cApp_some em] at hE
      have dpq := T.mfn_depth em ds
      have hv := iValid q.ty
      rw [T.valid_ty, show decide (q.depth ≤ 4) = true by simpa using dpq.2] at hv
      have hs1 := iSame 100000 (by omega) (T.fn p q).ty s.ty (T.two_size1 dpq.1 dpq.2)
      have hs2 := iSameT (a := p) (b := u) dpq.1
      change AFn _ _ _ (.one (.sc (.bool ((T.fn p q).eqb s)))) at hs1
      simp only [wT] at hW
      cases e1 : u.cons p
      · rw [e1] at hW
        repeat' (first | (first | (((first | apply sp1 | apply sp2 | apply sp3 | apply sp4 | apply sp5 | apply sp6 | apply sp7) <;> intro hb) <;> (simp only [go_sem, hb])) | ((first | apply wm_done | apply wt_done | apply wg_run | refine fk ?_ ?_) <;> (simp only [go_sem]))) | (first | (refine wl_next (wg_run ?_); (simp only [go_sem])) | refine wd_rounds 6 ?_) | ((first | refine mxq6 [] ?_ | refine mxq5 [] ?_ | refine mxq4 [] ?_ | refine mxq3 [] ?_ | refine mxq2 [] ?_ | refine mxq1 [] ?_ | refine mxq0 [] ?_ | fail); (simp only [go_sem])) | (first | refine cdq ?_ (hc := hW) | refine cmq ?_ (hc := hW) | refine ctq ?_ (hc := hW)); (simp only [go_sem]) | fail)
        exact hR _ (rat [] (hK := (.inr ⟨by first | (rw [hE]; done) | (rw [hE]; simp [*]; done), noTy, rfl, rfl⟩)))
      · rw [e1] at hW
        cases e2 : (T.fn p q).eqb s
        · rw [e2] at hs1
          repeat' (first | (first | (((first | apply sp1 | apply sp2 | apply sp3 | apply sp4 | apply sp5 | apply sp6 | apply sp7) <;> intro hb) <;> (simp only [go_sem, hb])) | ((first | apply wm_done | apply wt_done | apply wg_run | refine fk ?_ ?_) <;> (simp only [go_sem]))) | (first | (refine wl_next (wg_run ?_); (simp only [go_sem])) | refine wd_rounds 6 ?_) | ((first | refine mxq6 [] ?_ | refine mxq5 [] ?_ | refine mxq4 [] ?_ | refine mxq3 [] ?_ | refine mxq2 [] ?_ | refine mxq1 [] ?_ | refine mxq0 [] ?_ | fail); (simp only [go_sem])) | (first | refine cdq ?_ (hc := hW) | refine cmq ?_ (hc := hW) | refine ctq ?_ (hc := hW)); (simp only [go_sem]) | (first | refine cdq ?_ (hc := hv) | refine cmq ?_ (hc := hv) | refine ctq ?_ (hc := hv)); (simp only [go_sem]) | (first | refine cdq ?_ (hc := hs1) | refine cmq ?_ (hc := hs1) | refine ctq ?_ (hc := hs1)); (simp only [go_sem]) | fail)
          exact hR _ (rat [] (hK := (.inr ⟨by first | (rw [hE]; done) | (rw [hE]; simp [*]; done), noTy, rfl, rfl⟩)))
        · cases e3 : p.eqb u
          all_goals
            rw [e2] at hs1
            rw [e3] at hs2
            repeat' (first | (first | (((first | apply sp1 | apply sp2 | apply sp3 | apply sp4 | apply sp5 | apply sp6 | apply sp7) <;> intro hb) <;> (simp only [go_sem, hb])) | ((first | apply wm_done | apply wt_done | apply wg_run | refine fk ?_ ?_) <;> (simp only [go_sem]))) | (first | (refine wl_next (wg_run ?_); (simp only [go_sem])) | refine wd_rounds 6 ?_) | ((first | refine mxq6 [] ?_ | refine mxq5 [] ?_ | refine mxq4 [] ?_ | refine mxq3 [] ?_ | refine mxq2 [] ?_ | refine mxq1 [] ?_ | refine mxq0 [] ?_ | fail); (simp only [go_sem])) | (first | refine cdq ?_ (hc := hW) | refine cmq ?_ (hc := hW) | refine ctq ?_ (hc := hW)); (simp only [go_sem]) | (first | refine cdq ?_ (hc := hv) | refine cmq ?_ (hc := hv) | refine ctq ?_ (hc := hv)); (simp only [go_sem]) | (first | refine cdq ?_ (hc := hs1) | refine cmq ?_ (hc := hs1) | refine ctq ?_ (hc := hs1)); (simp only [go_sem]) | (first | refine cdq ?_ (hc := hs2) | refine cmq ?_ (hc := hs2) | refine ctq ?_ (hc := hs2)); (simp only [go_sem]) | fail)
          · exact hR _ (rat [] (hK := (.inr ⟨by first | (rw [hE]; done) | (rw [hE]; simp [*]; done), noTy, rfl, rfl⟩)))
          · exact hR _ (rat [] (hK := (.inl ⟨q, by first | (rw [hE]; done) | (rw [hE]; simp [*]; done), rfl, rfl⟩)))
  | add a b iha ihb =>
    intro Γ hw hn hc hl
    simp only [E.wf, Bool.and_eq_true] at hw
    simp only [E.noA, Bool.and_eq_true] at hn
    simp only [E.nodes] at hl
    have h1 := iha Γ hw.1 hn.1 hc (by omega)
    have h2 := ihb Γ hw.2 hn.2 hc (by omega)
    have d1 := fun t => a.cty_depth Γ t hw.1 hc
    have d2 := fun t => b.cty_depth Γ t hw.2 hc
    simp only [E.tm, nd]
    refine acl_in Tryz.func40 rfl isfn_40 (Nat.le_of_ble_eq_true rfl) (fun R hR => ?_); rw [Tryz.results40] at hR; refine wg_run ?_; (simp only [Tryz.f40, go_sem])
    repeat' (first | (first | (((first | apply sp1 | apply sp2 | apply sp3 | apply sp4 | apply sp5 | apply sp6 | apply sp7) <;> intro hb) <;> (simp only [go_sem, hb])) | ((first | apply wm_done | apply wt_done | apply wg_run | refine fk ?_ ?_) <;> (simp only [go_sem]))) | (first | (refine wl_next (wg_run ?_); (simp only [go_sem])) | refine wd_rounds 6 ?_) | ((first | refine kdq [] ?_ (hc := h1) | refine kmq [] ?_ (hc := h1) | refine ktq [] ?_ (hc := h1)); rintro _ _ (⟨s, es, rfl, rfl⟩ | ⟨es, y, rfl, rfl⟩) <;> (simp only [go_sem])))
    all_goals first
      | exact hR _ (rat [] (hK := (.inr ⟨by simp only [E.cty, es], noTy, rfl, rfl⟩)))
      | skip
    repeat' (first | (first | (((first | apply sp1 | apply sp2 | apply sp3 | apply sp4 | apply sp5 | apply sp6 | apply sp7) <;> intro hb) <;> (simp only [go_sem, hb])) | ((first | apply wm_done | apply wt_done | apply wg_run | refine fk ?_ ?_) <;> (simp only [go_sem]))) | (first | (refine wl_next (wg_run ?_); (simp only [go_sem])) | refine wd_rounds 6 ?_) | ((first | refine kdq [] ?_ (hc := h2) | refine kmq [] ?_ (hc := h2) | refine ktq [] ?_ (hc := h2)); rintro _ _ (⟨u, eu, rfl, rfl⟩ | ⟨eu, y, rfl, rfl⟩) <;> (simp only [go_sem])))
    all_goals first
      | exact hR _ (rat [] (hK := (.inr ⟨by simp only [E.cty, es, eu], noTy, rfl, rfl⟩)))
      | skip
    have ds := d1 s es
    have du := d2 u eu
    have hW := iW7 Γ a b s u ds du
    simp only [E.tm, nd, wT] at hW
    have hE : (E.add a b).cty Γ = cNum .int s u := by simp only [E.cty, es, eu]
    rw [cNum_eq] at hE
    have hv := iValid T.int.ty
    rw [T.valid_ty, show decide (T.int.depth ≤ 4) = true by decide] at hv
    have hs1 := iSameT (a := .int) (b := s) (by decide)
    have hs2 := iSameT (a := .int) (b := u) (by decide)
    cases e1 : (s.cons .int && u.cons .int)
    · rw [e1] at hW
      repeat' (first | (first | (((first | apply sp1 | apply sp2 | apply sp3 | apply sp4 | apply sp5 | apply sp6 | apply sp7) <;> intro hb) <;> (simp only [go_sem, hb])) | ((first | apply wm_done | apply wt_done | apply wg_run | refine fk ?_ ?_) <;> (simp only [go_sem]))) | (first | (refine wl_next (wg_run ?_); (simp only [go_sem])) | refine wd_rounds 6 ?_) | ((first | refine mxq6 [] ?_ | refine mxq5 [] ?_ | refine mxq4 [] ?_ | refine mxq3 [] ?_ | refine mxq2 [] ?_ | refine mxq1 [] ?_ | refine mxq0 [] ?_ | fail); (simp only [go_sem])) | (first | refine cdq ?_ (hc := hW) | refine cmq ?_ (hc := hW) | refine ctq ?_ (hc := hW)); (simp only [go_sem]) | fail)
      exact hR _ (rat [] (hK := (.inr ⟨by first | (rw [hE]; done) | (rw [hE]; simp [*]; done), noTy, rfl, rfl⟩)))
    · rw [e1] at hW
      cases e2 : T.int.eqb s
      · rw [e2] at hs1
        repeat' (first | (first | (((first | apply sp1 | apply sp2 | apply sp3 | apply sp4 | apply sp5 | apply sp6 | apply sp7) <;> intro hb) <;> (simp only [go_sem, hb])) | ((first | apply wm_done | apply wt_done | apply wg_run | refine fk ?_ ?_) <;> (simp only [go_sem]))) | (first | (refine wl_next (wg_run ?_); (simp only [go_sem])) | refine wd_rounds 6 ?_) | ((first | refine mxq6 [] ?_ | refine mxq5 [] ?_ | refine mxq4 [] ?_ | refine mxq3 [] ?_ | refine mxq2 [] ?_ | refine mxq1 [] ?_ | refine mxq0 [] ?_ | fail); (simp only [go_sem])) | (first | refine cdq ?_ (hc := hW) | refine cmq ?_ (hc := hW) | refine ctq ?_ (hc := hW)); (simp only [go_sem]) | (first | refine cdq ?_ (hc := hv) | refine cmq ?_ (hc := hv) | refine ctq ?_ (hc := hv)); (simp only [go_sem]) | (first | refine cdq ?_ (hc := hs1) | refine cmq ?_ (hc := hs1) | refine ctq ?_ (hc := hs1)); (simp only [go_sem]) | fail)
        exact hR _ (rat [] (hK := (.inr ⟨by first | (rw [hE]; done) | (rw [hE]; simp [*]; done), noTy, rfl, rfl⟩)))
      · cases e3 : T.int.eqb u
        all_goals
          rw [e2] at hs1
          rw [e3] at hs2
          repeat' (first | (first | (((first | apply sp1 | apply sp2 | apply sp3 | apply sp4 | apply sp5 | apply sp6 | apply sp7) <;> intro hb) <;> (simp only [go_sem, hb])) | ((first | apply wm_done | apply wt_done | apply wg_run | refine fk ?_ ?_) <;> (simp only [go_sem]))) | (first | (refine wl_next (wg_run ?_); (simp only [go_sem])) | refine wd_rounds 6 ?_) | ((first | refine mxq6 [] ?_ | refine mxq5 [] ?_ | refine mxq4 [] ?_ | refine mxq3 [] ?_ | refine mxq2 [] ?_ | refine mxq1 [] ?_ | refine mxq0 [] ?_ | fail); (simp only [go_sem])) | (first | refine cdq ?_ (hc := hW) | refine cmq ?_ (hc := hW) | refine ctq ?_ (hc := hW)); (simp only [go_sem]) | (first | refine cdq ?_ (hc := hv) | refine cmq ?_ (hc := hv) | refine ctq ?_ (hc := hv)); (simp only [go_sem]) | (first | refine cdq ?_ (hc := hs1) | refine cmq ?_ (hc := hs1) | refine ctq ?_ (hc := hs1)); (simp only [go_sem]) | (first | refine cdq ?_ (hc := hs2) | refine cmq ?_ (hc := hs2) | refine ctq ?_ (hc := hs2)); (simp only [go_sem]) | fail)
        · exact hR _ (rat [] (hK := (.inr ⟨by first | (rw [hE]; done) | (rw [hE]; simp [*]; done), noTy, rfl, rfl⟩)))
        · exact hR _ (rat [] (hK := (.inl ⟨.int, by first | (rw [hE]; done) | (rw [hE]; simp [*]; done), rfl, rfl⟩)))
  | less a b iha ihb =>
    intro Γ hw hn hc hl
    simp only [E.wf, Bool.and_eq_true] at hw
    simp only [E.noA, Bool.and_eq_true] at hn
    simp only [E.nodes] at hl
    have h1 := iha Γ hw.1 hn.1 hc (by omega)
    have h2 := ihb Γ hw.2 hn.2 hc (by omega)
    have d1 := fun t => a.cty_depth Γ t hw.1 hc
    have d2 := fun t => b.cty_depth Γ t hw.2 hc
    simp only [E.tm, nd]
    refine acl_in Tryz.func40 rfl isfn_40 (Nat.le_of_ble_eq_true rfl) (fun R hR => ?_); rw [Tryz.results40] at hR; refine wg_run ?_; (simp only [Tryz.f40, go_sem])
    repeat' (first | (first | (((first | apply sp1 | apply sp2 | apply sp3 | apply sp4 | apply sp5 | apply sp6 | apply sp7) <;> intro hb) <;> (simp only [go_sem, hb])) | ((first | apply wm_done | apply wt_done | apply wg_run | refine fk ?_ ?_) <;> (simp only [go_sem]))) | (first | (refine wl_next (wg_run ?_); (simp only [go_sem])) | refine wd_rounds 6 ?_) | ((first | refine kdq [] ?_ (hc := h1) | refine kmq [] ?_ (hc := h1) | refine ktq [] ?_ (hc := h1)); rintro _ _ (⟨s, es, rfl, rfl⟩ | ⟨es, y, rfl, rfl⟩) <;> (simp only [go_sem])))
    all_goals first
      | exact hR _ (rat [] (hK := (.inr ⟨by simp only [E.cty, es], noTy, rfl, rfl⟩)))
      | skip
    repeat' (first | (first | (((first | apply sp1 | apply sp2 | apply sp3 | apply sp4 | apply sp5 | apply sp6 | apply sp7) <;> intro hb) <;> (simp only [go_sem, hb])) | ((first | apply wm_done | apply wt_done | apply wg_run | refine fk ?_ ?_) <;> (simp only [go_sem]))) | (first | (refine wl_next (wg_run ?_); (simp only [go_sem])) | refine wd_rounds 6 ?_) | ((first | refine kdq [] ?_ (hc := h2) | refine kmq [] ?_ (hc := h2) | refine ktq [] ?_ (hc := h2)); rintro _ _ (⟨u, eu, rfl, rfl⟩ | ⟨eu, y, rfl, rfl⟩) <;> (simp only [go_sem])))
    all_goals first
      | exact hR _ (rat [] (hK := (.inr ⟨by simp only [E.cty, es, eu], noTy, rfl, rfl⟩)))
      | skip
    have ds := d1 s es
    have du := d2 u eu
    have hW := iW8 Γ a b s u ds du
    simp only [E.tm, nd, wT] at hW
    have hE : (E.less a b).cty Γ = cNum .bool s u := by simp only [E.cty, es, eu]
    rw [cNum_eq] at hE
    have hv := iValid T.bool.ty
    rw [T.valid_ty, show decide (T.bool.depth ≤ 4) = true by decide] at hv
    have hs1 := iSameT (a := .int) (b := s) (by decide)
    have hs2 := iSameT (a := .int) (b := u) (by decide)
    cases e1 : (s.cons .int && u.cons .int)
    · rw [e1] at hW
      repeat' (first | (first | (((first | apply sp1 | apply sp2 | apply sp3 | apply sp4 | apply sp5 | apply sp6 | apply sp7) <;> intro hb) <;> (simp only [go_sem, hb])) | ((first | apply wm_done | apply wt_done | apply wg_run | refine fk ?_ ?_) <;> (simp only [go_sem]))) | (first | (refine wl_next (wg_run ?_); (simp only [go_sem])) | refine wd_rounds 6 ?_) | ((first | refine mxq6 [] ?_ | refine mxq5 [] ?_ | refine mxq4 [] ?_ | refine mxq3 [] ?_ | refine mxq2 [] ?_ | refine mxq1 [] ?_ | refine mxq0 [] ?_ | fail); (simp only [go_sem])) | (first | refine cdq ?_ (hc := hW) | refine cmq ?_ (hc := hW) | refine ctq ?_ (hc := hW)); (simp only [go_sem]) | fail)
      exact hR _ (rat [] (hK := (.inr ⟨by first | (rw [hE]; done) | (rw [hE]; simp [*]; done), noTy, rfl, rfl⟩)))
    · rw [e1] at hW
      cases e2 : T.int.eqb s
      · rw [e2] at hs1
        repeat' (first | (first | (((first | apply sp1 | apply sp2 | apply sp3 | apply sp4 | apply sp5 | apply sp6 | apply sp7) <;> intro hb) <;> (simp only [go_sem, hb])) | ((first | apply wm_done | apply wt_done | apply wg_run | refine fk ?_ ?_) <;> (simp only [go_sem]))) | (first | (refine wl_next (wg_run ?_); (simp only [go_sem])) | refine wd_rounds 6 ?_) | ((first | refine mxq6 [] ?_ | refine mxq5 [] ?_ | refine mxq4 [] ?_ | refine mxq3 [] ?_ | refine mxq2 [] ?_ | refine mxq1 [] ?_ | refine mxq0 [] ?_ | fail); (simp only [go_sem])) | (first | refine cdq ?_ (hc := hW) | refine cmq ?_ (hc := hW) | refine ctq ?_ (hc := hW)); (simp only [go_sem]) | (first | refine cdq ?_ (hc := hv) | refine cmq ?_ (hc := hv) | refine ctq ?_ (hc := hv)); (simp only [go_sem]) | (first | refine cdq ?_ (hc := hs1) | refine cmq ?_ (hc := hs1) | refine ctq ?_ (hc := hs1)); (simp only [go_sem]) | fail)
        exact hR _ (rat [] (hK := (.inr ⟨by first | (rw [hE]; done) | (rw [hE]; simp [*]; done), noTy, rfl, rfl⟩)))
      · cases e3 : T.int.eqb u
        all_goals
          rw [e2] at hs1
          rw [e3] at hs2
          repeat' (first | (first | (((first | apply sp1 | apply sp2 | apply sp3 | apply sp4 | apply sp5 | apply sp6 | apply sp7) <;> intro hb) <;> (simp only [go_sem, hb])) | ((first | apply wm_done | apply wt_done | apply wg_run | refine fk ?_ ?_) <;> (simp only [go_sem]))) | (first | (refine wl_next (wg_run ?_); (simp only [go_sem])) | refine wd_rounds 6 ?_) | ((first | refine mxq6 [] ?_ | refine mxq5 [] ?_ | refine mxq4 [] ?_ | refine mxq3 [] ?_ | refine mxq2 [] ?_ | refine mxq1 [] ?_ | refine mxq0 [] ?_ | fail); (simp only [go_sem])) | (first | refine cdq ?_ (hc := hW) | refine cmq ?_ (hc := hW) | refine ctq ?_ (hc := hW)); (simp only [go_sem]) | (first | refine cdq ?_ (hc := hv) | refine cmq ?_ (hc := hv) | refine ctq ?_ (hc := hv)); (simp only [go_sem]) | (first | refine cdq ?_ (hc := hs1) | refine cmq ?_ (hc := hs1) | refine ctq ?_ (hc := hs1)); (simp only [go_sem]) | (first | refine cdq ?_ (hc := hs2) | refine cmq ?_ (hc := hs2) | refine ctq ?_ (hc := hs2)); (simp only [go_sem]) | fail)
        · exact hR _ (rat [] (hK := (.inr ⟨by first | (rw [hE]; done) | (rw [hE]; simp [*]; done), noTy, rfl, rfl⟩)))
        · exact hR _ (rat [] (hK := (.inl ⟨.bool, by first | (rw [hE]; done) | (rw [hE]; simp [*]; done), rfl, rfl⟩)))
  | pair a b iha ihb =>
    intro Γ hw hn hc hl
    simp only [E.wf, Bool.and_eq_true] at hw
    simp only [E.noA, Bool.and_eq_true] at hn
    simp only [E.nodes] at hl
    have h1 := iha Γ hw.1 hn.1 hc (by omega)
    have h2 := ihb Γ hw.2 hn.2 hc (by omega)
    have d1 := fun t => a.cty_depth Γ t hw.1 hc
    have d2 := fun t => b.cty_depth Γ t hw.2 hc
    simp only [E.tm, nd]
    refine acl_in Tryz.func40 rfl isfn_40 (Nat.le_of_ble_eq_true rfl) (fun R hR => ?_); rw [Tryz.results40] at hR; refine wg_run ?_; (simp only [Tryz.f40, go_sem])
    repeat' (first | (first | (((first | apply sp1 | apply sp2 | apply sp3 | apply sp4 | apply sp5 | apply sp6 | apply sp7) <;> intro hb) <;> (simp only [go_sem, hb])) | ((first | apply wm_done | apply wt_done | apply wg_run | refine fk ?_ ?_) <;> (simp only [go_sem]))) | (first | (refine wl_next (wg_run ?_); (simp only [go_sem])) | refine wd_rounds 6 ?_) | ((first | refine kdq [] ?_ (hc := h1) | refine kmq [] ?_ (hc := h1) | refine ktq [] ?_ (hc := h1)); rintro _ _ (⟨s, es, rfl, rfl⟩ | ⟨es, y, rfl, rfl⟩) <;> (simp only [go_sem])))
    all_goals first
      | exact hR _ (rat [] (hK := (.inr ⟨by simp only [E.cty, es], noTy, rfl, rfl⟩)))
      | skip
    repeat' (first | (first | (((first | apply sp1 | apply sp2 | apply sp3 | apply sp4 | apply sp5 | apply sp6 | apply sp7) <;> intro hb) <;> (simp only [go_sem, hb])) | ((first | apply wm_done | apply wt_done | apply wg_run | refine fk ?_ ?_) <;> (simp only [go_sem]))) | (first | (refine wl_next (wg_run ?_); (simp only [go_sem])) | refine wd_rounds 6 ?_) | ((first | refine kdq [] ?_ (hc := h2) | refine kmq [] ?_ (hc := h2) | refine ktq [] ?_ (hc := h2)); rintro _ _ (⟨u, eu, rfl, rfl⟩ | ⟨eu, y, rfl, rfl⟩) <;> (simp only [go_sem])))
    all_goals first
      | exact hR _ (rat [] (hK := (.inr ⟨by simp only [E.cty, es, eu], noTy, rfl, rfl⟩)))
      | skip
    have hW := iW10 Γ a b s u
    simp only [E.tm, nd, wT] at hW
    have hE : (E.pair a b).cty Γ = twoP s u := by simp only [E.cty, es, eu]
    unfold twoP at hE
    have hv := iValid (T.pr s u).ty
    rw [T.valid_ty] at hv
    cases e1 : decide ((T.pr s u).depth ≤ 4)
    all_goals
      rw [e1] at hv
      repeat' (first | (first | (((first | apply sp1 | apply sp2 | apply sp3 | apply sp4 | apply sp5 | apply sp6 | apply sp7) <;> intro hb) <;> (simp only [go_sem, hb])) | ((first | apply wm_done | apply wt_done | apply wg_run | refine fk ?_ ?_) <;> (simp only [go_sem]))) | (first | (refine wl_next (wg_run ?_); (simp only [go_sem])) | refine wd_rounds 6 ?_) | ((first | refine mxq6 [] ?_ | refine mxq5 [] ?_ | refine mxq4 [] ?_ | refine mxq3 [] ?_ | refine mxq2 [] ?_ | refine mxq1 [] ?_ | refine mxq0 [] ?_ | fail); (simp only [go_sem])) | (first | refine cdq ?_ (hc := hW) | refine cmq ?_ (hc := hW) | refine ctq ?_ (hc := hW)); (simp only [go_sem]) | (first | refine cdq ?_ (hc := hv) | refine cmq ?_ (hc := hv) | refine ctq ?_ (hc := hv)); (simp only [go_sem]) | fail)
    · exact hR _ (rat [] (hK := (.inr ⟨by first | (rw [hE]; done) | (rw [hE]; simp [*]; done), noTy, rfl, rfl⟩)))
    · exact hR _ (rat [] (hK := (.inl ⟨.pr s u, by first | (rw [hE]; done) | (rw [hE]; simp [*]; done), rfl, rfl⟩)))
  | ite a b c iha ihb ihc =>
    intro Γ hw hn hc hl
    simp only [E.wf, Bool.and_eq_true] at hw
    simp only [E.noA, Bool.and_eq_true] at hn
    simp only [E.nodes] at hl
    have h1 := iha Γ hw.1 hn.1 hc (by omega)
    have h2 := ihb Γ hw.2.1 hn.2.1 hc (by omega)
    have h3 := ihc Γ hw.2.2 hn.2.2 hc (by omega)
    have d1 := fun t => a.cty_depth Γ t hw.1 hc
    have d2 := fun t => b.cty_depth Γ t hw.2.1 hc
    have d3 := fun t => c.cty_depth Γ t hw.2.2 hc
    simp only [E.tm, nd]
    refine acl_in Tryz.func40 rfl isfn_40 (Nat.le_of_ble_eq_true rfl) (fun R hR => ?_); rw [Tryz.results40] at hR; refine wg_run ?_; (simp only [Tryz.f40, go_sem])
    repeat' (first | (first | (((first | apply sp1 | apply sp2 | apply sp3 | apply sp4 | apply sp5 | apply sp6 | apply sp7) <;> intro hb) <;> (simp only [go_sem, hb])) | ((first | apply wm_done | apply wt_done | apply wg_run | refine fk ?_ ?_) <;> (simp only [go_sem]))) | (first | (refine wl_next (wg_run ?_); (simp only [go_sem])) | refine wd_rounds 6 ?_) | ((first | refine kdq [] ?_ (hc := h1) | refine kmq [] ?_ (hc := h1) | refine ktq [] ?_ (hc := h1)); rintro _ _ (⟨s, es, rfl, rfl⟩ | ⟨es, y, rfl, rfl⟩) <;> (simp only [go_sem])))
    all_goals first
      | exact hR _ (rat [] (hK := (.inr ⟨by simp only [E.cty, es], noTy, rfl, rfl⟩)))
      | skip
    repeat' (first | (first | (((first | apply sp1 | apply sp2 | apply sp3 | apply sp4 | apply sp5 | apply sp6 | apply sp7) <;> intro hb) <;> (simp only [go_sem, hb])) | ((first | apply wm_done | apply wt_done | apply wg_run | refine fk ?_ ?_) <;> (simp only [go_sem]))) | (first | (refine wl_next (wg_run ?_); (simp only [go_sem])) | refine wd_rounds 6 ?_) | ((first | refine kdq [] ?_ (hc := h2) | refine kmq [] ?_ (hc := h2) | refine ktq [] ?_ (hc := h2)); rintro _ _ (⟨u, eu, rfl, rfl⟩ | ⟨eu, y, rfl, rfl⟩) <;> (simp only [go_sem])))
    all_goals first
      | exact hR _ (rat [] (hK := (.inr ⟨by simp only [E.cty, es, eu], noTy, rfl, rfl⟩)))
      | skip
    repeat' (first | (first | (((first | apply sp1 | apply sp2 | apply sp3 | apply sp4 | apply sp5 | apply sp6 | apply sp7) <;> intro hb) <;> (simp only [go_sem, hb])) | ((first | apply wm_done | apply wt_done | apply wg_run | refine fk ?_ ?_) <;> (simp only [go_sem]))) | (first | (refine wl_next (wg_run ?_); (simp only [go_sem])) | refine wd_rounds 6 ?_) | ((first | refine kdq [] ?_ (hc := h3) | refine kmq [] ?_ (hc := h3) | refine ktq [] ?_ (hc := h3)); rintro _ _ (⟨v, ev, rfl, rfl⟩ | ⟨ev, y, rfl, rfl⟩) <;> (simp only [go_sem])))
    all_goals first
      | exact hR _ (rat [] (hK := (.inr ⟨by simp only [E.cty, es, eu, ev], noTy, rfl, rfl⟩)))
      | skip
    have ds := d1 s es
    have du := d2 u eu
    have dv := d3 v ev
    have hW := iW9 Γ a b c s u v ds du dv
    simp only [E.tm, nd] at hW
    have hE : (E.ite a b c).cty Γ = cIte s u v := by simp only [E.cty, es, eu, ev]
    rw [cIte_eq] at hE
    have dm : (u.meet v).depth ≤ 4 := by have := T.meet_depth u v; omega
    have hv := iValid (u.meet v).ty
    rw [T.valid_ty, show decide ((u.meet v).depth ≤ 4) = true by simpa using dm] at hv
    have hs1 := iSameT (a := .bool) (b := s) (by decide)
    have hs2 := iSameT (a := u.meet v) (b := u) dm
    have hs3 := iSameT (a := u.meet v) (b := v) dm
    cases e1 : (s.cons .bool && u.cons v)
    · rw [e1] at hW
      simp only [wT] at hW
      repeat' (first | (first | (((first | apply sp1 | apply sp2 | apply sp3 | apply sp4 | apply sp5 | apply sp6 | apply sp7) <;> intro hb) <;> (simp only [go_sem, hb])) | ((first | apply wm_done | apply wt_done | apply wg_run | refine fk ?_ ?_) <;> (simp only [go_sem]))) | (first | (refine wl_next (wg_run ?_); (simp only [go_sem])) | refine wd_rounds 6 ?_) | ((first | refine mxq6 [] ?_ | refine mxq5 [] ?_ | refine mxq4 [] ?_ | refine mxq3 [] ?_ | refine mxq2 [] ?_ | refine mxq1 [] ?_ | refine mxq0 [] ?_ | fail); (simp only [go_sem])) | (first | refine cdq ?_ (hc := hW) | refine cmq ?_ (hc := hW) | refine ctq ?_ (hc := hW)); (simp only [go_sem]) | fail)
      exact hR _ (rat [] (hK := (.inr ⟨by first | (rw [hE]; done) | (rw [hE]; simp [*]; done), noTy, rfl, rfl⟩)))
    · rw [e1] at hW
      simp only [wT] at hW
      cases e2 : T.bool.eqb s
      · rw [e2] at hs1
        repeat' (first | (first | (((first | apply sp1 | apply sp2 | apply sp3 | apply sp4 | apply sp5 | apply sp6 | apply sp7) <;> intro hb) <;> (simp only [go_sem, hb])) | ((first | apply wm_done | apply wt_done | apply wg_run | refine fk ?_ ?_) <;> (simp only [go_sem]))) | (first | (refine wl_next (wg_run ?_); (simp only [go_sem])) | refine wd_rounds 6 ?_) | ((first | refine mxq6 [] ?_ | refine mxq5 [] ?_ | refine mxq4 [] ?_ | refine mxq3 [] ?_ | refine mxq2 [] ?_ | refine mxq1 [] ?_ | refine mxq0 [] ?_ | fail); (simp only [go_sem])) | (first | refine cdq ?_ (hc := hW) | refine cmq ?_ (hc := hW) | refine ctq ?_ (hc := hW)); (simp only [go_sem]) | (first | refine cdq ?_ (hc := hv) | refine cmq ?_ (hc := hv) | refine ctq ?_ (hc := hv)); (simp only [go_sem]) | (first | refine cdq ?_ (hc := hs1) | refine cmq ?_ (hc := hs1) | refine ctq ?_ (hc := hs1)); (simp only [go_sem]) | fail)
        exact hR _ (rat [] (hK := (.inr ⟨by first | (rw [hE]; done) | (rw [hE]; simp [*]; done), noTy, rfl, rfl⟩)))
      · cases e3 : (u.meet v).eqb u
        · rw [e2] at hs1
          rw [e3] at hs2
          repeat' (first | (first | (((first | apply sp1 | apply sp2 | apply sp3 | apply sp4 | apply sp5 | apply sp6 | apply sp7) <;> intro hb) <;> (simp only [go_sem, hb])) | ((first | apply wm_done | apply wt_done | apply wg_run | refine fk ?_ ?_) <;> (simp only [go_sem]))) | (first | (refine wl_next (wg_run ?_); (simp only [go_sem])) | refine wd_rounds 6 ?_) | ((first | refine mxq6 [] ?_ | refine mxq5 [] ?_ | refine mxq4 [] ?_ | refine mxq3 [] ?_ | refine mxq2 [] ?_ | refine mxq1 [] ?_ | refine mxq0 [] ?_ | fail); (simp only [go_sem])) | (first | refine cdq ?_ (hc := hW) | refine cmq ?_ (hc := hW) | refine ctq ?_ (hc := hW)); (simp only [go_sem]) | (first | refine cdq ?_ (hc := hv) | refine cmq ?_ (hc := hv) | refine ctq ?_ (hc := hv)); (simp only [go_sem]) | (first | refine cdq ?_ (hc := hs1) | refine cmq ?_ (hc := hs1) | refine ctq ?_ (hc := hs1)); (simp only [go_sem]) | (first | refine cdq ?_ (hc := hs2) | refine cmq ?_ (hc := hs2) | refine ctq ?_ (hc := hs2)); (simp only [go_sem]) | fail)
          exact hR _ (rat [] (hK := (.inr ⟨by first | (rw [hE]; done) | (rw [hE]; simp [*]; done), noTy, rfl, rfl⟩)))
        · cases e4 : (u.meet v).eqb v
          all_goals
            rw [e2] at hs1
            rw [e3] at hs2
            rw [e4] at hs3
            repeat' (first | (first | (((first | apply sp1 | apply sp2 | apply sp3 | apply sp4 | apply sp5 | apply sp6 | apply sp7) <;> intro hb) <;> (simp only [go_sem, hb])) | ((first | apply wm_done | apply wt_done | apply wg_run | refine fk ?_ ?_) <;> (simp only [go_sem]))) | (first | (refine wl_next (wg_run ?_); (simp only [go_sem])) | refine wd_rounds 6 ?_) | ((first | refine mxq6 [] ?_ | refine mxq5 [] ?_ | refine mxq4 [] ?_ | refine mxq3 [] ?_ | refine mxq2 [] ?_ | refine mxq1 [] ?_ | refine mxq0 [] ?_ | fail); (simp only [go_sem])) | (first | refine cdq ?_ (hc := hW) | refine cmq ?_ (hc := hW) | refine ctq ?_ (hc := hW)); (simp only [go_sem]) | (first | refine cdq ?_ (hc := hv) | refine cmq ?_ (hc := hv) | refine ctq ?_ (hc := hv)); (simp only [go_sem]) | (first | refine cdq ?_ (hc := hs1) | refine cmq ?_ (hc := hs1) | refine ctq ?_ (hc := hs1)); (simp only [go_sem]) | (first | refine cdq ?_ (hc := hs2) | refine cmq ?_ (hc := hs2) | refine ctq ?_ (hc := hs2)); (simp only [go_sem]) | (first | refine cdq ?_ (hc := hs3) | refine cmq ?_ (hc := hs3) | refine ctq ?_ (hc := hs3)); (simp only [go_sem]) | fail)
          · exact hR _ (rat [] (hK := (.inr ⟨by first | (rw [hE]; done) | (rw [hE]; simp [*]; done), noTy, rfl, rfl⟩)))
          · exact hR _ (rat [] (hK := (.inl ⟨u.meet v, by first | (rw [hE]; done) | (rw [hE]; simp [*]; done), rfl, rfl⟩)))
  | fst a iha =>
    intro Γ hw hn hc hl
    simp only [E.wf] at hw
    simp only [E.noA] at hn
    simp only [E.nodes] at hl
    have h1 := iha Γ hw hn hc (by omega)
    have d1 := fun t => a.cty_depth Γ t hw hc
    simp only [E.tm, nd]
    refine acl_in Tryz.func40 rfl isfn_40 (Nat.le_of_ble_eq_true rfl) (fun R hR => ?_); rw [Tryz.results40] at hR; refine wg_run ?_; (simp only [Tryz.f40, go_sem])
    repeat' (first | (first | (((first | apply sp1 | apply sp2 | apply sp3 | apply sp4 | apply sp5 | apply sp6 | apply sp7) <;> intro hb) <;> (simp only [go_sem, hb])) | ((first | apply wm_done | apply wt_done | apply wg_run | refine fk ?_ ?_) <;> (simp only [go_sem]))) | (first | (refine wl_next (wg_run ?_); (simp only [go_sem])) | refine wd_rounds 6 ?_) | ((first | refine kdq [] ?_ (hc := h1) | refine kmq [] ?_ (hc := h1) | refine ktq [] ?_ (hc := h1)); rintro _ _ (⟨s, es, rfl, rfl⟩ | ⟨es, y, rfl, rfl⟩) <;> (simp only [go_sem])))
    all_goals first
      | exact hR _ (rat [] (hK := (.inr ⟨by simp only [E.cty, es], noTy, rfl, rfl⟩)))
      | skip
    have ds := d1 s es
    have hW := iW11 Γ a s
    simp only [E.tm, nd] at hW
    cases em : s.mpr with
    | none =>
      rw [em] at hW
      have hE : (E.fst a).cty Γ = cFst s := by simp only [E.cty, es]
      rw [cFst_none em] at hE
      simp only [wT] at hW
      repeat' (first | (first | (((first | apply sp1 | apply sp2 | apply sp3 | apply sp4 | apply sp5 | apply sp6 | apply sp7) <;> intro hb) <;> (simp only [go_sem, hb])) | ((first | apply wm_done | apply wt_done | apply wg_run | refine fk ?_ ?_) <;> (simp only [go_sem]))) | (first | (refine wl_next (wg_run ?_); (simp only [go_sem])) | refine wd_rounds 6 ?_) | ((first | refine mxq6 [] ?_ | refine mxq5 [] ?_ | refine mxq4 [] ?_ | refine mxq3 [] ?_ | refine mxq2 [] ?_ | refine mxq1 [] ?_ | refine mxq0 [] ?_ | fail); (simp only [go_sem])) | (first | refine cdq ?_ (hc := hW) | refine cmq ?_ (hc := hW) | refine ctq ?_ (hc := hW)); (simp only [go_sem]) | fail)
      exact hR _ (rat [] (hK := (.inr ⟨by first | (rw [hE]; done) | (rw [hE]; simp [*]; done), noTy, rfl, rfl⟩)))
    | some pq =>
      obtain ⟨p, q⟩ := pq
      rw [em] at hW
      have hE : (E.fst a).cty Γ = cFst s := by simp only [E.cty, es]
      rw [cFst_some em] at hE
      have dpq := T.mpr_depth em ds
      have hv := iValid p.ty
      rw [T.valid_ty, show decide (p.depth ≤ 4) = true by simpa using dpq.1] at hv
      have hs1 := iSame 100000 (by omega) (T.pr p q).ty s.ty (T.two_size2 dpq.1 dpq.2)
      change AFn _ _ _ (.one (.sc (.bool ((T.pr p q).eqb s)))) at hs1
      simp only [wT] at hW
      cases e2 : (T.pr p q).eqb s
      all_goals
        rw [e2] at hs1
        repeat' (first | (first | (((first | apply sp1 | apply sp2 | apply sp3 | apply sp4 | apply sp5 | apply sp6 | apply sp7) <;> intro hb) <;> (simp only [go_sem, hb])) | ((first | apply wm_done | apply wt_done | apply wg_run | refine fk ?_ ?_) <;> (simp only [go_sem]))) | (first | (refine wl_next (wg_run ?_); (simp only [go_sem])) | refine wd_rounds 6 ?_) | ((first | refine mxq6 [] ?_ | refine mxq5 [] ?_ | refine mxq4 [] ?_ | refine mxq3 [] ?_ | refine mxq2 [] ?_ | refine mxq1 [] ?_ | refine mxq0 [] ?_ | fail); (simp only [go_sem])) | (first | refine cdq ?_ (hc := hW) | refine cmq ?_ (hc := hW) | refine ctq ?_ (hc := hW)); (simp only [go_sem]) | (first | refine cdq ?_ (hc := hv) | refine cmq ?_ (hc := hv) | refine ctq ?_ (hc := hv)); (simp only [go_sem]) | (first | refine cdq ?_ (hc := hs1) | refine cmq ?_ (hc := hs1) | refine ctq ?_ (hc := hs1)); (simp only [go_sem]) | fail)
      · exact hR _ (rat [] (hK := (.inr ⟨by first | (rw [hE]; done) | (rw [hE]; simp [*]; done), noTy, rfl, rfl⟩)))
      · exact hR _ (rat [] (hK := (.inl ⟨p, by first | (rw [hE]; done) | (rw [hE]; simp [*]; done), rfl, rfl⟩)))
  | snd a iha =>
    intro Γ hw hn hc hl
    simp only [E.wf] at hw
    simp only [E.noA] at hn
    simp only [E.nodes] at hl
    have h1 := iha Γ hw hn hc (by omega)
    have d1 := fun t => a.cty_depth Γ t hw hc
    simp only [E.tm, nd]
    refine acl_in Tryz.func40 rfl isfn_40 (Nat.le_of_ble_eq_true rfl) (fun R hR => ?_); rw [Tryz.results40] at hR; refine wg_run ?_; (simp only [Tryz.f40, go_sem])
    repeat' (first | (first | (((first | apply sp1 | apply sp2 | apply sp3 | apply sp4 | apply sp5 | apply sp6 | apply sp7) <;> intro hb) <;> (simp only [go_sem, hb])) | ((first | apply wm_done | apply wt_done | apply wg_run | refine fk ?_ ?_) <;> (simp only [go_sem]))) | (first | (refine wl_next (wg_run ?_); (simp only [go_sem])) | refine wd_rounds 6 ?_) | ((first | refine kdq [] ?_ (hc := h1) | refine kmq [] ?_ (hc := h1) | refine ktq [] ?_ (hc := h1)); rintro _ _ (⟨s, es, rfl, rfl⟩ | ⟨es, y, rfl, rfl⟩) <;> (simp only [go_sem])))
    all_goals first
      | exact hR _ (rat [] (hK := (.inr ⟨by simp only [E.cty, es], noTy, rfl, rfl⟩)))
      | skip
    have ds := d1 s es
    have hW := iW12 Γ a s
    simp only [E.tm, nd] at hW
    cases em : s.mpr with
    | none =>
      rw [em] at hW
      have hE : (E.snd a).cty Γ = cSnd s := by simp only [E.cty, es]
      rw [cSnd_none em] at hE
      simp only [wT] at hW
      repeat' (first | (first | (((first | apply sp1 | apply sp2 | apply sp3 | apply sp4 | apply sp5 | apply sp6 | apply sp7) <;> intro hb) <;> (simp only [go_sem, hb])) | ((first | apply wm_done | apply wt_done | apply wg_run | refine fk ?_ ?_) <;> (simp only [go_sem]))) | (first | (refine wl_next (wg_run ?_); (simp only [go_sem])) | refine wd_rounds 6 ?_) | ((first | refine mxq6 [] ?_ | refine mxq5 [] ?_ | refine mxq4 [] ?_ | refine mxq3 [] ?_ | refine mxq2 [] ?_ | refine mxq1 [] ?_ | refine mxq0 [] ?_ | fail); (simp only [go_sem])) | (first | refine cdq ?_ (hc := hW) | refine cmq ?_ (hc := hW) | refine ctq ?_ (hc := hW)); (simp only [go_sem]) | fail)
      exact hR _ (rat [] (hK := (.inr ⟨by first | (rw [hE]; done) | (rw [hE]; simp [*]; done), noTy, rfl, rfl⟩)))
    | some pq =>
      obtain ⟨p, q⟩ := pq
      rw [em] at hW
      have hE : (E.snd a).cty Γ = cSnd s := by simp only [E.cty, es]
      rw [cSnd_some em] at hE
      have dpq := T.mpr_depth em ds
      have hv := iValid q.ty
      rw [T.valid_ty, show decide (q.depth ≤ 4) = true by simpa using dpq.2] at hv
      have hs1 := iSame 100000 (by omega) (T.pr p q).ty s.ty (T.two_size2 dpq.1 dpq.2)
      change AFn _ _ _ (.one (.sc (.bool ((T.pr p q).eqb s)))) at hs1
      simp only [wT] at hW
      cases e2 : (T.pr p q).eqb s
      all_goals
        rw [e2] at hs1
        repeat' (first | (first | (((first | apply sp1 | apply sp2 | apply sp3 | apply sp4 | apply sp5 | apply sp6 | apply sp7) <;> intro hb) <;> (simp only [go_sem, hb])) | ((first | apply wm_done | apply wt_done | apply wg_run | refine fk ?_ ?_) <;> (simp only [go_sem]))) | (first | (refine wl_next (wg_run ?_); (simp only [go_sem])) | refine wd_rounds 6 ?_) | ((first | refine mxq6 [] ?_ | refine mxq5 [] ?_ | refine mxq4 [] ?_ | refine mxq3 [] ?_ | refine mxq2 [] ?_ | refine mxq1 [] ?_ | refine mxq0 [] ?_ | fail); (simp only [go_sem])) | (first | refine cdq ?_ (hc := hW) | refine cmq ?_ (hc := hW) | refine ctq ?_ (hc := hW)); (simp only [go_sem]) | (first | refine cdq ?_ (hc := hv) | refine cmq ?_ (hc := hv) | refine ctq ?_ (hc := hv)); (simp only [go_sem]) | (first | refine cdq ?_ (hc := hs1) | refine cmq ?_ (hc := hs1) | refine ctq ?_ (hc := hs1)); (simp only [go_sem]) | fail)
      · exact hR _ (rat [] (hK := (.inr ⟨by first | (rw [hE]; done) | (rw [hE]; simp [*]; done), noTy, rfl, rfl⟩)))
      · exact hR _ (rat [] (hK := (.inl ⟨q, by first | (rw [hE]; done) | (rw [hE]; simp [*]; done), rfl, rfl⟩)))
  | cast p q l a iha =>
    intro Γ hw hn hc hl
    simp only [E.wf, Bool.and_eq_true, decide_eq_true_eq] at hw
    simp only [E.noA] at hn
    simp only [E.nodes] at hl
    have h1 := iha Γ hw.2.2.2 hn hc (by omega)
    have d1 := fun t => a.cty_depth Γ t hw.2.2.2 hc
    simp only [E.tm]
    refine acl_in Tryz.func40 rfl isfn_40 (Nat.le_of_ble_eq_true rfl) (fun R hR => ?_); rw [Tryz.results40] at hR; refine wg_run ?_; (simp only [Tryz.f40, go_sem])
    repeat' (first | (first | (((first | apply sp1 | apply sp2 | apply sp3 | apply sp4 | apply sp5 | apply sp6 | apply sp7) <;> intro hb) <;> (simp only [go_sem, hb])) | ((first | apply wm_done | apply wt_done | apply wg_run | refine fk ?_ ?_) <;> (simp only [go_sem]))) | (first | (refine wl_next (wg_run ?_); (simp only [go_sem])) | refine wd_rounds 6 ?_) | ((first | refine kdq [] ?_ (hc := h1) | refine kmq [] ?_ (hc := h1) | refine ktq [] ?_ (hc := h1)); rintro _ _ (⟨s, es, rfl, rfl⟩ | ⟨es, y, rfl, rfl⟩) <;> (simp only [go_sem])))
    all_goals first
      | exact hR _ (rat [] (hK := (.inr ⟨by simp only [E.cty, es], noTy, rfl, rfl⟩)))
      | skip
    have ds := d1 s es
    have hs1 := iSameT (a := s) (b := p) ds
    have hE : (E.cast p q l a).cty Γ = cCast p q s := by simp only [E.cty, es]
    unfold cCast at hE
    cases e2 : s.eqb p
    all_goals
      rw [e2] at hs1
      repeat' (first | (first | (((first | apply sp1 | apply sp2 | apply sp3 | apply sp4 | apply sp5 | apply sp6 | apply sp7) <;> intro hb) <;> (simp only [go_sem, hb])) | ((first | apply wm_done | apply wt_done | apply wg_run | refine fk ?_ ?_) <;> (simp only [go_sem]))) | (first | (refine wl_next (wg_run ?_); (simp only [go_sem])) | refine wd_rounds 6 ?_) | (first | (refine tr (.op 0 false (.op 2 false (.op 3 false (.op 4 false (.op 5 false (.op 6 false (.fork 1 false (.op 7 true (.op 8 true (.op 9 false .nil))) (.op 7 true (.op 1 false (.op 8 true (.op 9 false .nil))))))))))) [] follows ?_; (simp only [go_sem])) | fail) | ((first | refine mxq6 [] ?_ | refine mxq5 [] ?_ | refine mxq4 [] ?_ | refine mxq3 [] ?_ | refine mxq2 [] ?_ | refine mxq1 [] ?_ | refine mxq0 [] ?_ | fail); (simp only [go_sem])) | (first | refine cdq ?_ (hc := hs1) | refine cmq ?_ (hc := hs1) | refine ctq ?_ (hc := hs1)); (simp only [go_sem]) | fail)
    · exact hR _ (rat [] (hK := (.inr ⟨by rw [hE, e2], q.ty, rfl, rfl⟩)))
    · exact hR _ (rat [] (hK := (.inl ⟨q, by first | (rw [hE]; done) | (rw [hE]; simp [*]; done), rfl, rfl⟩)))
  | asc _ _ _ => intro Γ hw hn; simp [E.noA] at hn
theorem iCastTypeOf (t : Tm) : AFn Tryz.prog 16 [.agg (teC t)] (tyI t.ctype) := by
  have hv := iCastV t
  cases hb : t.castV
  · rw [hb] at hv
    rw [Tm.ctype_bad hb]
    simp only [tyI, noTy]
    refine fn_in ?_; refine acl_in Tryz.func16 rfl isfn_16 (Nat.le_of_ble_eq_true rfl) (fun R hR => ?_); rw [Tryz.results16] at hR; refine wg_run ?_; (simp only [Tryz.f16, go_sem])
    repeat' (first | (first | (((first | apply sp1 | apply sp2 | apply sp3 | apply sp4 | apply sp5 | apply sp6 | apply sp7) <;> intro hb) <;> (simp only [go_sem, hb])) | ((first | apply wm_done | apply wt_done | apply wg_run | refine fk ?_ ?_) <;> (simp only [go_sem]))) | (first | refine cdq ?_ (hc := hv) | refine cmq ?_ (hc := hv) | refine ctq ?_ (hc := hv)); (simp only [go_sem]) | fail)
    (refine hR _ ?_; refine rat [] (hK := ⟨rfl, rfl⟩))
  · rw [hb] at hv
    obtain ⟨e, rfl, he⟩ := Tm.castV_E hb
    rw [Tm.ctype_E he]
    simp only [E.okC, Bool.and_eq_true, decide_eq_true_eq] at he
    have h1 := iCastType e [] he.1 he.2.1 ctxOk_nil (by simp; omega)
    have hd := e.cty_depth [] 
    refine fn_in ?_; refine acl_in Tryz.func16 rfl isfn_16 (Nat.le_of_ble_eq_true rfl) (fun R hR => ?_); rw [Tryz.results16] at hR; refine wg_run ?_; (simp only [Tryz.f16, go_sem])
    repeat' (first | (first | (((first | apply sp1 | apply sp2 | apply sp3 | apply sp4 | apply sp5 | apply sp6 | apply sp7) <;> intro hb) <;> (simp only [go_sem, hb])) | ((first | apply wm_done | apply wt_done | apply wg_run | refine fk ?_ ?_) <;> (simp only [go_sem]))) | (first | refine cdq ?_ (hc := hv) | refine cmq ?_ (hc := hv) | refine ctq ?_ (hc := hv)); (simp only [go_sem]) | ((first | refine kdq [] ?_ (hc := h1) | refine kmq [] ?_ (hc := h1) | refine ktq [] ?_ (hc := h1)); rintro _ _ (⟨u, eu, rfl, rfl⟩ | ⟨eu, y, rfl, rfl⟩) <;> (simp only [go_sem])) | fail)
    · have ho := iOwnT (hd u he.1 ctxOk_nil eu)
      simp only [eu, tyI] at hR
      repeat' (first | (first | (((first | apply sp1 | apply sp2 | apply sp3 | apply sp4 | apply sp5 | apply sp6 | apply sp7) <;> intro hb) <;> (simp only [go_sem, hb])) | ((first | apply wm_done | apply wt_done | apply wg_run | refine fk ?_ ?_) <;> (simp only [go_sem]))) | (first | refine cdq ?_ (hc := ho) | refine cmq ?_ (hc := ho) | refine ctq ?_ (hc := ho)); (simp only [go_sem]) | fail)
      (refine hR _ ?_; refine rat [] (hK := ⟨rfl, rfl⟩))
    · simp only [eu, tyI, noTy] at hR
      (refine hR _ ?_; refine rat [] (hK := ⟨rfl, rfl⟩))
end Go.Proofs.YtjmicohbnpbemaaGreat
