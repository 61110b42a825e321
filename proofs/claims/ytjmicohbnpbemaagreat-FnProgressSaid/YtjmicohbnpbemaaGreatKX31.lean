/- Texts of the proof, one behind another. -/
import Derived.Test.YtjmicohbnpbemaaGreatKX17
import Derived.Test.YtjmicohbnpbemaaGreatKX27
import Derived.Test.YtjmicohbnpbemaaGreatKX28
import Derived.Test.YtjmicohbnpbemaaGreatKX30
set_option linter.unusedSimpArgs false
set_option linter.unusedVariables false
/- Laws of evaluation: the identity. On shadows. -/
namespace Go.Proofs.YtjmicohbnpbemaaGreat
open Go.RowKit Go.Proofs.Sh Go.Proofs.Grad
set_option maxRecDepth 100000
set_option maxHeartbeats 16000000
theorem lEvalIdentity (l : List Int) (hc : ∀ k, 0 ≤ byte l k ∧ byte l k < 256) : AFn Tryz.prog 12 [.one (.sl (byR l))] (.one (.sc (.bool true))) := by
  by_cases hlen : 1048576 < l.length
  · have hg : decide (((l.length : Nat) : Int) > 1048576) = true := by simp; omega
    refine fn_in ?_; refine acl_in Tryz.func12 rfl isfn_12 (Nat.le_of_ble_eq_true rfl) (fun R hR => ?_); rw [Tryz.results12] at hR; refine wg_run ?_; (simp only [Tryz.f12, go_sem, hg])
    (refine hR _ (rat [] (hK := ⟨rfl, rfl⟩)))
  · have hg : decide (((l.length : Nat) : Int) > 1048576) = false := by simp; omega
    have hd := dEvalCast l ⟨by omega, hc⟩
    refine fn_in ?_; refine acl_in Tryz.func12 rfl isfn_12 (Nat.le_of_ble_eq_true rfl) (fun R hR => ?_); rw [Tryz.results12] at hR; refine wg_run ?_; (simp only [Tryz.f12, go_sem, hg])
    ((first | refine kdq [] ?_ (hc := hd) | refine kmq [] ?_ (hc := hd) | refine ktq [] ?_ (hc := hd)); rintro _ _ ⟨x, f, rfl, hx, hf0, hf9, rfl⟩ <;> (simp only [go_sem]))
    have h1 := iEvalV x f
    have h2 := sEvalV x (by omega) f
    have hsm := iTmRefl (x.evalV f).etm (by have := x.evalV_size f; omega)
    have hct := iCastTypeOf x
    cases ct : x.ctype
    · rw [ct] at hct
      simp only [tyI, noTy] at hct
      generalize x.evalV f = r at *
      rcases r with e | e | b | _ | _
      all_goals
        simp only [ecT, SC.etm, SC.ecode, SC.tm, SC.code, SC.lab, tm0, noTy] at h1 h2 hsm
        repeat' (first | (first | (((first | apply sp1 | apply sp2 | apply sp3 | apply sp4 | apply sp5 | apply sp6 | apply sp7) <;> intro hb) <;> (simp only [go_sem, hb])) | ((first | apply wm_done | apply wt_done | apply wg_run | refine fk ?_ ?_) <;> (simp only [go_sem]))) | (first | refine cdq ?_ (hc := h1) | refine cmq ?_ (hc := h1) | refine ctq ?_ (hc := h1)); (simp only [go_sem]) | (first | refine cdq ?_ (hc := h2) | refine cmq ?_ (hc := h2) | refine ctq ?_ (hc := h2)); (simp only [go_sem]) | (first | refine cdq ?_ (hc := hct) | refine cmq ?_ (hc := hct) | refine ctq ?_ (hc := hct)); (simp only [go_sem]) | (first | refine cdq ?_ (hc := hsm) | refine cmq ?_ (hc := hsm) | refine ctq ?_ (hc := hsm)); (simp only [go_sem]) | ((first | refine mxq6 [] ?_ | refine mxq5 [] ?_ | refine mxq4 [] ?_ | refine mxq3 [] ?_ | refine mxq2 [] ?_ | refine mxq1 [] ?_ | refine mxq0 [] ?_ | fail); (simp only [go_sem])) | fail)
        all_goals (refine hR _ (rat [] (hK := ⟨rfl, rfl⟩)))
    rename_i t
    rw [ct] at hct
    simp only [tyI] at hct
    have h6 := iCastV (nd 6 [(E.lam 113 t (.var 113)).tm, x])
    cases ev : (nd 6 [(E.lam 113 t (.var 113)).tm, x]).castV
    · rw [ev] at h6
      generalize x.evalV f = r at *
      rcases r with e | e | b | _ | _
      all_goals
        simp only [ecT, SC.etm, SC.ecode, SC.tm, SC.code, SC.lab, tm0, noTy] at h1 h2 hsm
        repeat' (first | (first | (((first | apply sp1 | apply sp2 | apply sp3 | apply sp4 | apply sp5 | apply sp6 | apply sp7) <;> intro hb) <;> (simp only [go_sem, hb])) | ((first | apply wm_done | apply wt_done | apply wg_run | refine fk ?_ ?_) <;> (simp only [go_sem]))) | (first | refine cdq ?_ (hc := h1) | refine cmq ?_ (hc := h1) | refine ctq ?_ (hc := h1)); (simp only [go_sem]) | (first | refine cdq ?_ (hc := h2) | refine cmq ?_ (hc := h2) | refine ctq ?_ (hc := h2)); (simp only [go_sem]) | (first | refine cdq ?_ (hc := h6) | refine cmq ?_ (hc := h6) | refine ctq ?_ (hc := h6)); (simp only [go_sem]) | (first | refine cdq ?_ (hc := hct) | refine cmq ?_ (hc := hct) | refine ctq ?_ (hc := hct)); (simp only [go_sem]) | (first | refine cdq ?_ (hc := hsm) | refine cmq ?_ (hc := hsm) | refine ctq ?_ (hc := hsm)); (simp only [go_sem]) | ((first | refine mxq6 [] ?_ | refine mxq5 [] ?_ | refine mxq4 [] ?_ | refine mxq3 [] ?_ | refine mxq2 [] ?_ | refine mxq1 [] ?_ | refine mxq0 [] ?_ | fail); (simp only [go_sem])) | fail)
        all_goals (refine hR _ (rat [] (hK := ⟨rfl, rfl⟩)))
    · rw [ev] at h6
      have tri : f < 0 ∨ 300 ≤ f ∨ (0 ≤ f ∧ f < 300) := by omega
      rcases tri with hfr | hfr | hfr
      · have b3 : decide (f < 0) = true := by simpa using hfr
        generalize x.evalV f = r at *
        rcases r with e | e | b | _ | _
        all_goals
          simp only [ecT, SC.etm, SC.ecode, SC.tm, SC.code, SC.lab, tm0, noTy] at h1 h2 hsm
          repeat' (first | (first | (simp only [go_sem, b3]) | (((first | apply sp1 | apply sp2 | apply sp3 | apply sp4 | apply sp5 | apply sp6 | apply sp7) <;> intro hb) <;> (simp only [go_sem, hb, b3])) | ((first | apply wm_done | apply wt_done | apply wg_run | refine fk ?_ ?_) <;> (simp only [go_sem, b3]))) | (first | refine cdq ?_ (hc := h1) | refine cmq ?_ (hc := h1) | refine ctq ?_ (hc := h1)); (simp only [go_sem]) | (first | refine cdq ?_ (hc := h2) | refine cmq ?_ (hc := h2) | refine ctq ?_ (hc := h2)); (simp only [go_sem]) | (first | refine cdq ?_ (hc := h6) | refine cmq ?_ (hc := h6) | refine ctq ?_ (hc := h6)); (simp only [go_sem]) | (first | refine cdq ?_ (hc := hct) | refine cmq ?_ (hc := hct) | refine ctq ?_ (hc := hct)); (simp only [go_sem]) | (first | refine cdq ?_ (hc := hsm) | refine cmq ?_ (hc := hsm) | refine ctq ?_ (hc := hsm)); (simp only [go_sem]) | ((first | refine mxq6 [] ?_ | refine mxq5 [] ?_ | refine mxq4 [] ?_ | refine mxq3 [] ?_ | refine mxq2 [] ?_ | refine mxq1 [] ?_ | refine mxq0 [] ?_ | fail); (simp only [go_sem, b3])) | fail)
          all_goals (refine hR _ (rat [] (hK := ⟨rfl, rfl⟩)))
      · have b3 : decide (f < 0) = false := by simp; omega
        have b4 : decide (f ≥ 300) = true := by simpa using hfr
        generalize x.evalV f = r at *
        rcases r with e | e | b | _ | _
        all_goals
          simp only [ecT, SC.etm, SC.ecode, SC.tm, SC.code, SC.lab, tm0, noTy] at h1 h2 hsm
          repeat' (first | (first | (simp only [go_sem, b3, b4]) | (((first | apply sp1 | apply sp2 | apply sp3 | apply sp4 | apply sp5 | apply sp6 | apply sp7) <;> intro hb) <;> (simp only [go_sem, hb, b3, b4])) | ((first | apply wm_done | apply wt_done | apply wg_run | refine fk ?_ ?_) <;> (simp only [go_sem, b3, b4]))) | (first | refine cdq ?_ (hc := h1) | refine cmq ?_ (hc := h1) | refine ctq ?_ (hc := h1)); (simp only [go_sem]) | (first | refine cdq ?_ (hc := h2) | refine cmq ?_ (hc := h2) | refine ctq ?_ (hc := h2)); (simp only [go_sem]) | (first | refine cdq ?_ (hc := h6) | refine cmq ?_ (hc := h6) | refine ctq ?_ (hc := h6)); (simp only [go_sem]) | (first | refine cdq ?_ (hc := hct) | refine cmq ?_ (hc := hct) | refine ctq ?_ (hc := hct)); (simp only [go_sem]) | (first | refine cdq ?_ (hc := hsm) | refine cmq ?_ (hc := hsm) | refine ctq ?_ (hc := hsm)); (simp only [go_sem]) | ((first | refine mxq6 [] ?_ | refine mxq5 [] ?_ | refine mxq4 [] ?_ | refine mxq3 [] ?_ | refine mxq2 [] ?_ | refine mxq1 [] ?_ | refine mxq0 [] ?_ | fail); (simp only [go_sem, b3, b4])) | fail)
          all_goals (refine hR _ (rat [] (hK := ⟨rfl, rfl⟩)))
      · have b3 : decide (f < 0) = false := by simp; omega
        have b4 : decide (f ≥ 300) = false := by simp; omega
        have hw : IntKind.i64.wrap (f + 1) = f + 1 := IntWalk.i64_in _ (by omega)
        have h3 := iEvalV (nd 6 [(E.lam 113 t (.var 113)).tm, x]) (f + 1)
        have hev := @Tm.evalV_id 113 t x f
        have h0 := iEvalV (nd 6 [(E.lam 113 t (.var 113)).tm, x]) (f + 1)
        have hsz := (nd 6 [(E.lam 113 t (.var 113)).tm, x]).evalV_size (f + 1)
        generalize hq : (nd 6 [(E.lam 113 t (.var 113)).tm, x]).evalV (f + 1) = r2 at *
        generalize x.evalV f = r at *
        rcases r with e | e | b | _ | _
        case took =>
          -- more fuel would be needed
          have hsw : ∀ a : Tm, a.size ≤ 8000 → ∃ z, AFn Tryz.prog 23 [.agg (teC tm0), .agg (teC a)] (.one (.sc (.bool z))) := fun a ha => ⟨_, iTmSame 4611686018427387904 (by omega) tm0 a (by simp [tm0, Tm.size, Tm.sizes, noTy, Ty.size, Ty.sizes])⟩
          simp only [ecT, SC.etm, SC.ecode, SC.tm, SC.code, SC.lab, tm0, noTy] at h1 h2 hsm
          rcases r2 with e | e | b | _ | _
          all_goals
            simp only [ecT, SC.etm, SC.ecode, SC.tm, SC.code, SC.lab, tm0, noTy] at h3
            repeat' (first | (first | (simp only [go_sem, b3, b4, hw, beq_self_eq_true]) | (((first | apply sp1 | apply sp2 | apply sp3 | apply sp4 | apply sp5 | apply sp6 | apply sp7) <;> intro hb) <;> (simp only [go_sem, hb, b3, b4, hw, beq_self_eq_true])) | ((first | apply wm_done | apply wt_done | apply wg_run | refine fk ?_ ?_) <;> (simp only [go_sem, b3, b4, hw, beq_self_eq_true]))) | (first | refine cdq ?_ (hc := h1) | refine cmq ?_ (hc := h1) | refine ctq ?_ (hc := h1)); (simp only [go_sem]) | (first | refine cdq ?_ (hc := h2) | refine cmq ?_ (hc := h2) | refine ctq ?_ (hc := h2)); (simp only [go_sem]) | (first | refine cdq ?_ (hc := h3) | refine cmq ?_ (hc := h3) | refine ctq ?_ (hc := h3)); (simp only [go_sem]) | (first | refine cdq ?_ (hc := h6) | refine cmq ?_ (hc := h6) | refine ctq ?_ (hc := h6)); (simp only [go_sem]) | (first | refine cdq ?_ (hc := hct) | refine cmq ?_ (hc := hct) | refine ctq ?_ (hc := hct)); (simp only [go_sem]) | (first | refine cdq ?_ (hc := hsm) | refine cmq ?_ (hc := hsm) | refine ctq ?_ (hc := hsm)); (simp only [go_sem]) | (first | refine cdq ?_ (hc := hct) | refine cmq ?_ (hc := hct) | refine ctq ?_ (hc := hct)); (simp only [go_sem]) | ((first | refine mxq6 [] ?_ | refine mxq5 [] ?_ | refine mxq4 [] ?_ | refine mxq3 [] ?_ | refine mxq2 [] ?_ | refine mxq1 [] ?_ | refine mxq0 [] ?_ | fail); (simp only [go_sem, b3, b4, hw, beq_self_eq_true])) | fail)
            all_goals (refine hR _ (rat [] (hK := ⟨rfl, rfl⟩)))
        all_goals
          rcases hev ev hfr.1 hfr.2 rfl with hh | hh
          all_goals
            subst hh
            simp only [ecT, SC.etm, SC.ecode, SC.tm, SC.code, SC.lab, tm0, noTy] at h1 h2 h3 hsm
            repeat' (first | (first | (simp only [go_sem, b3, b4, hw, beq_self_eq_true]) | (((first | apply sp1 | apply sp2 | apply sp3 | apply sp4 | apply sp5 | apply sp6 | apply sp7) <;> intro hb) <;> (simp only [go_sem, hb, b3, b4, hw, beq_self_eq_true])) | ((first | apply wm_done | apply wt_done | apply wg_run | refine fk ?_ ?_) <;> (simp only [go_sem, b3, b4, hw, beq_self_eq_true]))) | (first | refine cdq ?_ (hc := h1) | refine cmq ?_ (hc := h1) | refine ctq ?_ (hc := h1)); (simp only [go_sem]) | (first | refine cdq ?_ (hc := h2) | refine cmq ?_ (hc := h2) | refine ctq ?_ (hc := h2)); (simp only [go_sem]) | (first | refine cdq ?_ (hc := h3) | refine cmq ?_ (hc := h3) | refine ctq ?_ (hc := h3)); (simp only [go_sem]) | (first | refine cdq ?_ (hc := h6) | refine cmq ?_ (hc := h6) | refine ctq ?_ (hc := h6)); (simp only [go_sem]) | (first | refine cdq ?_ (hc := hct) | refine cmq ?_ (hc := hct) | refine ctq ?_ (hc := hct)); (simp only [go_sem]) | (first | refine cdq ?_ (hc := hsm) | refine cmq ?_ (hc := hsm) | refine ctq ?_ (hc := hsm)); (simp only [go_sem]) | (first | refine cdq ?_ (hc := hct) | refine cmq ?_ (hc := hct) | refine ctq ?_ (hc := hct)); (simp only [go_sem]) | ((first | refine mxq6 [] ?_ | refine mxq5 [] ?_ | refine mxq4 [] ?_ | refine mxq3 [] ?_ | refine mxq2 [] ?_ | refine mxq1 [] ?_ | refine mxq0 [] ?_ | fail); (simp only [go_sem, b3, b4, hw, beq_self_eq_true])) | fail)
            all_goals (refine hR _ (rat [] (hK := ⟨rfl, rfl⟩)))
end Go.Proofs.YtjmicohbnpbemaaGreat
/- Laws of steps: types are kept, and typed terms go on. No program, no world. -/
namespace Go.Proofs.Grad
theorem Tm.step_ctype {x : Tm} {y : E} {t : T} (h : x.stepV = .took y) (ht : x.ctype = some t) : y.tm.ctype = some t ∧ t.depth ≤ 4 := by
  obtain ⟨e, rfl, ho, hs⟩ := Tm.stepV_tookE h
  rw [Tm.ctype_E ho] at ht
  obtain ⟨hv, hst, hoy⟩ := E.sc_took hs
  have hw : e.wf = true := by simp only [E.okC, Bool.and_eq_true] at ho; exact ho.1
  have hk := step_keeps e t hw hv ht
  rw [hst] at hk
  rw [Tm.ctype_E hoy]
  exact ⟨hk, E.cty_depth e [] t hw ctxOk_nil ht⟩
theorem Tm.ctype_castV {x : Tm} {t : T} (ht : x.ctype = some t) : ∃ e : E, e.tm = x ∧ e.okC = true ∧ e.cty [] = some t := by
  cases hc : x.castV with
  | false => rw [Tm.ctype_bad hc] at ht; cases ht
  | true =>
    obtain ⟨e, rfl, ho⟩ := Tm.castV_E hc
    rw [Tm.ctype_E ho] at ht
    exact ⟨e, rfl, ho, ht⟩
/-- what a typed term comes to -/
theorem Tm.go_on {x : Tm} {t : T} (ht : x.ctype = some t) : x.stepV ≠ .stuck ∧ (∀ y, x.stepV = .value y → ∃ e : E, e.tm = x ∧ e.okC = true ∧ e.val = true) ∧ ((∀ y, x.stepV ≠ .value y) → ∃ e : E, e.tm = x ∧ e.okC = true ∧ e.val = false) ∧ (∀ l, x.stepV = .blame l → (l != 0) = true) := by
  obtain ⟨e, rfl, ho, hc⟩ := Tm.ctype_castV ht
  rw [Tm.stepV_E ho]
  have hw : e.wf = true ∧ e.noA = true := by simp only [E.okC, Bool.and_eq_true] at ho; exact ⟨ho.1, ho.2.1⟩
  cases hv : e.val with
  | true =>
    have hs : e.sc = .value e := by simp only [E.sc, hv]
    rw [hs]
    exact ⟨nofun, fun y _ => ⟨e, rfl, ho, hv⟩, fun h => absurd rfl (h e), nofun⟩
  | false =>
    have hp := progress e t hw.1 hv hc
    have hok := E.step_ok e hw.1 hw.2
    refine ⟨?_, fun y hy => ?_, fun _ => ⟨e, rfl, ho, hv⟩, fun l hl => ?_⟩
    · intro h
      simp only [E.sc, hv] at h
      split at h
      · split at h <;> cases h
      · cases h
      · rename_i hst; rw [hst] at hp; cases hp
    · simp only [E.sc, hv] at hy
      split at hy
      · split at hy <;> cases hy
      · cases hy
      · cases hy
    · simp only [E.sc, hv] at hl
      split at hl
      · split at hl <;> cases hl
      · rename_i k hst; cases hl; rw [hst] at hok
        simp only [SR.ok, Grad.lab] at hok
        simp at hok ⊢; omega
      · cases hl
end Go.Proofs.Grad
/- Laws of steps: preservation; progress. On shadows. -/
namespace Go.Proofs.YtjmicohbnpbemaaGreat
open Go.RowKit Go.Proofs.Sh Go.Proofs.Grad
set_option maxRecDepth 100000
set_option maxHeartbeats 16000000
theorem lPreservation (l : List Int) (hc : ∀ k, 0 ≤ byte l k ∧ byte l k < 256) : AFn Tryz.prog 10 [.one (.sl (byR l))] (.one (.sc (.bool true))) := by
  by_cases hlen : 1048576 < l.length
  · have hg : decide (((l.length : Nat) : Int) > 1048576) = true := by simp; omega
    refine fn_in ?_; refine acl_in Tryz.func10 rfl isfn_10 (Nat.le_of_ble_eq_true rfl) (fun R hR => ?_); rw [Tryz.results10] at hR; refine wg_run ?_; (simp only [Tryz.f10, go_sem, hg])
    (refine hR _ (rat [] (hK := ⟨rfl, rfl⟩)))
  · have hg : decide (((l.length : Nat) : Int) > 1048576) = false := by simp; omega
    have hd := dStepCast l ⟨by omega, hc⟩
    refine fn_in ?_; refine acl_in Tryz.func10 rfl isfn_10 (Nat.le_of_ble_eq_true rfl) (fun R hR => ?_); rw [Tryz.results10] at hR; refine wg_run ?_; (simp only [Tryz.f10, go_sem, hg])
    ((first | refine kdq [] ?_ (hc := hd) | refine kmq [] ?_ (hc := hd) | refine ktq [] ?_ (hc := hd)); rintro _ _ ⟨x, rfl, hx, rfl⟩ <;> (simp only [go_sem]))
    have h1 := iStepV x
    have h2 := sStepV x (by omega)
    have hsm := iTmRefl x.stepV.tm (by have := x.stepV_size; omega)
    have h3 := iCastTypeOf x
    cases ct : x.ctype with
    | none =>
      rw [ct] at h3
      simp only [tyI, noTy] at h3
      generalize x.stepV = r at *
      rcases r with e | e | b | _ | _
      all_goals
        simp only [scT, SC.tm, SC.code, SC.lab, tm0, noTy] at h1 h2 hsm
        repeat' (first | (first | (((first | apply sp1 | apply sp2 | apply sp3 | apply sp4 | apply sp5 | apply sp6 | apply sp7) <;> intro hb) <;> (simp only [go_sem, hb])) | ((first | apply wm_done | apply wt_done | apply wg_run | refine fk ?_ ?_) <;> (simp only [go_sem]))) | (first | refine cdq ?_ (hc := h1) | refine cmq ?_ (hc := h1) | refine ctq ?_ (hc := h1)); (simp only [go_sem]) | (first | refine cdq ?_ (hc := h2) | refine cmq ?_ (hc := h2) | refine ctq ?_ (hc := h2)); (simp only [go_sem]) | (first | refine cdq ?_ (hc := hsm) | refine cmq ?_ (hc := hsm) | refine ctq ?_ (hc := hsm)); (simp only [go_sem]) | (first | refine cdq ?_ (hc := h3) | refine cmq ?_ (hc := h3) | refine ctq ?_ (hc := h3)); (simp only [go_sem]) | ((first | refine mxq6 [] ?_ | refine mxq5 [] ?_ | refine mxq4 [] ?_ | refine mxq3 [] ?_ | refine mxq2 [] ?_ | refine mxq1 [] ?_ | refine mxq0 [] ?_ | fail); (simp only [go_sem])) | fail)
        all_goals (refine hR _ (rat [] (hK := ⟨rfl, rfl⟩)))
    | some t =>
      rw [ct] at h3
      simp only [tyI] at h3
      have hk := fun y (hy : x.stepV = .took y) => Tm.step_ctype hy ct
      generalize x.stepV = r at *
      rcases r with e | e | b | _ | _
      case took =>
        obtain ⟨hk1, hk2⟩ := hk e rfl
        have h4 := iCastTypeOf e.tm
        rw [hk1] at h4
        simp only [tyI] at h4
        have h5 := iSameT (a := t) (b := t) hk2
        rw [T.eqb_refl] at h5
        simp only [scT, SC.tm, SC.code, SC.lab, tm0, noTy] at h1 h2 hsm
        repeat' (first | (first | (((first | apply sp1 | apply sp2 | apply sp3 | apply sp4 | apply sp5 | apply sp6 | apply sp7) <;> intro hb) <;> (simp only [go_sem, hb])) | ((first | apply wm_done | apply wt_done | apply wg_run | refine fk ?_ ?_) <;> (simp only [go_sem]))) | (first | refine cdq ?_ (hc := h1) | refine cmq ?_ (hc := h1) | refine ctq ?_ (hc := h1)); (simp only [go_sem]) | (first | refine cdq ?_ (hc := h2) | refine cmq ?_ (hc := h2) | refine ctq ?_ (hc := h2)); (simp only [go_sem]) | (first | refine cdq ?_ (hc := hsm) | refine cmq ?_ (hc := hsm) | refine ctq ?_ (hc := hsm)); (simp only [go_sem]) | (first | refine cdq ?_ (hc := h3) | refine cmq ?_ (hc := h3) | refine ctq ?_ (hc := h3)); (simp only [go_sem]) | (first | refine cdq ?_ (hc := h4) | refine cmq ?_ (hc := h4) | refine ctq ?_ (hc := h4)); (simp only [go_sem]) | (first | refine cdq ?_ (hc := h5) | refine cmq ?_ (hc := h5) | refine ctq ?_ (hc := h5)); (simp only [go_sem]) | ((first | refine mxq6 [] ?_ | refine mxq5 [] ?_ | refine mxq4 [] ?_ | refine mxq3 [] ?_ | refine mxq2 [] ?_ | refine mxq1 [] ?_ | refine mxq0 [] ?_ | fail); (simp only [go_sem])) | fail)
        all_goals (refine hR _ (rat [] (hK := ⟨rfl, rfl⟩)))
      all_goals
        simp only [scT, SC.tm, SC.code, SC.lab, tm0, noTy] at h1 h2 hsm
        repeat' (first | (first | (((first | apply sp1 | apply sp2 | apply sp3 | apply sp4 | apply sp5 | apply sp6 | apply sp7) <;> intro hb) <;> (simp only [go_sem, hb])) | ((first | apply wm_done | apply wt_done | apply wg_run | refine fk ?_ ?_) <;> (simp only [go_sem]))) | (first | refine cdq ?_ (hc := h1) | refine cmq ?_ (hc := h1) | refine ctq ?_ (hc := h1)); (simp only [go_sem]) | (first | refine cdq ?_ (hc := h2) | refine cmq ?_ (hc := h2) | refine ctq ?_ (hc := h2)); (simp only [go_sem]) | (first | refine cdq ?_ (hc := hsm) | refine cmq ?_ (hc := hsm) | refine ctq ?_ (hc := hsm)); (simp only [go_sem]) | (first | refine cdq ?_ (hc := h3) | refine cmq ?_ (hc := h3) | refine ctq ?_ (hc := h3)); (simp only [go_sem]) | ((first | refine mxq6 [] ?_ | refine mxq5 [] ?_ | refine mxq4 [] ?_ | refine mxq3 [] ?_ | refine mxq2 [] ?_ | refine mxq1 [] ?_ | refine mxq0 [] ?_ | fail); (simp only [go_sem])) | fail)
        all_goals (refine hR _ (rat [] (hK := ⟨rfl, rfl⟩)))
theorem lProgress (l : List Int) (hc : ∀ k, 0 ≤ byte l k ∧ byte l k < 256) : AFn Tryz.prog 11 [.one (.sl (byR l))] (.one (.sc (.bool true))) := by
  by_cases hlen : 1048576 < l.length
  · have hg : decide (((l.length : Nat) : Int) > 1048576) = true := by simp; omega
    refine fn_in ?_; refine acl_in Tryz.func11 rfl isfn_11 (Nat.le_of_ble_eq_true rfl) (fun R hR => ?_); rw [Tryz.results11] at hR; refine wg_run ?_; (simp only [Tryz.f11, go_sem, hg])
    (refine hR _ (rat [] (hK := ⟨rfl, rfl⟩)))
  · have hg : decide (((l.length : Nat) : Int) > 1048576) = false := by simp; omega
    have hd := dStepCast l ⟨by omega, hc⟩
    refine fn_in ?_; refine acl_in Tryz.func11 rfl isfn_11 (Nat.le_of_ble_eq_true rfl) (fun R hR => ?_); rw [Tryz.results11] at hR; refine wg_run ?_; (simp only [Tryz.f11, go_sem, hg])
    ((first | refine kdq [] ?_ (hc := hd) | refine kmq [] ?_ (hc := hd) | refine ktq [] ?_ (hc := hd)); rintro _ _ ⟨x, rfl, hx, rfl⟩ <;> (simp only [go_sem]))
    have h1 := iStepV x
    have h2 := sStepV x (by omega)
    have hsm := iTmRefl x.stepV.tm (by have := x.stepV_size; omega)
    have h3 := iCastTypeOf x
    have h4 := iIsValue x (by omega)
    cases ct : x.ctype with
    | none =>
      rw [ct] at h3
      simp only [tyI, noTy] at h3
      generalize x.stepV = r at *
      rcases r with e | e | b | _ | _
      all_goals
        simp only [scT, SC.tm, SC.code, SC.lab, tm0, noTy] at h1 h2 hsm
        repeat' (first | (first | (simp only [go_sem, int_bne, beq_self_eq_true]) | (((first | apply sp1 | apply sp2 | apply sp3 | apply sp4 | apply sp5 | apply sp6 | apply sp7) <;> intro hb) <;> (simp only [go_sem, hb, int_bne, beq_self_eq_true])) | ((first | apply wm_done | apply wt_done | apply wg_run | refine fk ?_ ?_) <;> (simp only [go_sem, int_bne, beq_self_eq_true]))) | (first | refine cdq ?_ (hc := h1) | refine cmq ?_ (hc := h1) | refine ctq ?_ (hc := h1)); (simp only [go_sem]) | (first | refine cdq ?_ (hc := h2) | refine cmq ?_ (hc := h2) | refine ctq ?_ (hc := h2)); (simp only [go_sem]) | (first | refine cdq ?_ (hc := hsm) | refine cmq ?_ (hc := hsm) | refine ctq ?_ (hc := hsm)); (simp only [go_sem]) | (first | refine cdq ?_ (hc := h3) | refine cmq ?_ (hc := h3) | refine ctq ?_ (hc := h3)); (simp only [go_sem]) | ((first | refine mxq6 [] ?_ | refine mxq5 [] ?_ | refine mxq4 [] ?_ | refine mxq3 [] ?_ | refine mxq2 [] ?_ | refine mxq1 [] ?_ | refine mxq0 [] ?_ | fail); (simp only [go_sem, int_bne, beq_self_eq_true])) | fail)
        all_goals (refine hR _ (rat [] (hK := ⟨rfl, rfl⟩)))
    | some t =>
      rw [ct] at h3
      simp only [tyI] at h3
      obtain ⟨g1, g2, g3, g4⟩ := Tm.go_on ct
      have hv : isValV x = (match x.stepV with | .value _ => true | _ => false) := by
        cases hq : x.stepV with
        | value y => obtain ⟨e, rfl, ho, hv⟩ := g2 y hq; simp only [isValV, E.castV_tm, ho, E.val_tm, hv]; rfl
        | _ => obtain ⟨e, rfl, ho, hv⟩ := g3 (by rw [hq]; exact nofun); simp only [isValV, E.castV_tm, ho, E.val_tm, hv]; rfl
      rw [hv] at h4
      generalize x.stepV = r at *
      rcases r with e | e | b | _ | _
      case stuck => exact absurd rfl g1
      case blame =>
        have g5 := g4 b rfl
        simp only [scT, SC.tm, SC.code, SC.lab, tm0, noTy] at h1 h2 h4 hsm
        repeat' (first | (first | (simp only [go_sem, g5, int_bne, beq_self_eq_true]) | (((first | apply sp1 | apply sp2 | apply sp3 | apply sp4 | apply sp5 | apply sp6 | apply sp7) <;> intro hb) <;> (simp only [go_sem, hb, g5, int_bne, beq_self_eq_true])) | ((first | apply wm_done | apply wt_done | apply wg_run | refine fk ?_ ?_) <;> (simp only [go_sem, g5, int_bne, beq_self_eq_true]))) | (first | refine cdq ?_ (hc := h1) | refine cmq ?_ (hc := h1) | refine ctq ?_ (hc := h1)); (simp only [go_sem]) | (first | refine cdq ?_ (hc := h2) | refine cmq ?_ (hc := h2) | refine ctq ?_ (hc := h2)); (simp only [go_sem]) | (first | refine cdq ?_ (hc := hsm) | refine cmq ?_ (hc := hsm) | refine ctq ?_ (hc := hsm)); (simp only [go_sem]) | (first | refine cdq ?_ (hc := h3) | refine cmq ?_ (hc := h3) | refine ctq ?_ (hc := h3)); (simp only [go_sem]) | (first | refine cdq ?_ (hc := h4) | refine cmq ?_ (hc := h4) | refine ctq ?_ (hc := h4)); (simp only [go_sem]) | ((first | refine mxq6 [] ?_ | refine mxq5 [] ?_ | refine mxq4 [] ?_ | refine mxq3 [] ?_ | refine mxq2 [] ?_ | refine mxq1 [] ?_ | refine mxq0 [] ?_ | fail); (simp only [go_sem, g5, int_bne, beq_self_eq_true])) | fail)
        all_goals (refine hR _ (rat [] (hK := ⟨rfl, rfl⟩)))
      all_goals
        simp only [scT, SC.tm, SC.code, SC.lab, tm0, noTy] at h1 h2 h4 hsm
        repeat' (first | (first | (simp only [go_sem, int_bne, beq_self_eq_true]) | (((first | apply sp1 | apply sp2 | apply sp3 | apply sp4 | apply sp5 | apply sp6 | apply sp7) <;> intro hb) <;> (simp only [go_sem, hb, int_bne, beq_self_eq_true])) | ((first | apply wm_done | apply wt_done | apply wg_run | refine fk ?_ ?_) <;> (simp only [go_sem, int_bne, beq_self_eq_true]))) | (first | refine cdq ?_ (hc := h1) | refine cmq ?_ (hc := h1) | refine ctq ?_ (hc := h1)); (simp only [go_sem]) | (first | refine cdq ?_ (hc := h2) | refine cmq ?_ (hc := h2) | refine ctq ?_ (hc := h2)); (simp only [go_sem]) | (first | refine cdq ?_ (hc := hsm) | refine cmq ?_ (hc := hsm) | refine ctq ?_ (hc := hsm)); (simp only [go_sem]) | (first | refine cdq ?_ (hc := h3) | refine cmq ?_ (hc := h3) | refine ctq ?_ (hc := h3)); (simp only [go_sem]) | (first | refine cdq ?_ (hc := h4) | refine cmq ?_ (hc := h4) | refine ctq ?_ (hc := h4)); (simp only [go_sem]) | ((first | refine mxq6 [] ?_ | refine mxq5 [] ?_ | refine mxq4 [] ?_ | refine mxq3 [] ?_ | refine mxq2 [] ?_ | refine mxq1 [] ?_ | refine mxq0 [] ?_ | fail); (simp only [go_sem, int_bne, beq_self_eq_true])) | fail)
        all_goals (refine hR _ (rat [] (hK := ⟨rfl, rfl⟩)))
end Go.Proofs.YtjmicohbnpbemaaGreat
