/- Texts of the proof, one behind another. -/
import Derived.Test.YtfgjiamolknicaaKB4
import Derived.Test.YtfgjiamolknicaaKB5
import Derived.Test.YtfgjiamolknicaaKB6
import Derived.Test.YtfgjiamolknicaaKB7
set_option linter.unusedSimpArgs false
set_option linter.unusedVariables false
/- Terms: casts that change nothing, counted; on shadows. -/
namespace Go.Proofs.Grad
theorem T.ty_size_pos (t : T) : 0 < t.ty.size := by rw [T.ty_size]; exact T.size_pos t
theorem E.kid0_size {e : E} : e.kid0.tm.size ≤ e.tm.size := by
  cases e <;> simp [E.kid0, E.tm, Tm.size, Tm.sizes] <;> omega
theorem E.simp1_size (x : E) : x.simp1.tm.size ≤ x.tm.size := by
  cases x <;> simp only [E.simp1] <;> try exact Nat.le_refl _
  rename_i s t l a
  have h := E.kid0_size (e := a)
  split
  · simp only [E.tm, Tm.size, Tm.sizes]; omega
  · split
    · simp only [E.tm, Tm.size, Tm.sizes] at h ⊢; omega
    · exact Nat.le_refl _
theorem E.mapE_size {φ : E → E} (h : ∀ x : E, (φ x).tm.size ≤ x.tm.size) (e : E) : (e.mapE φ).tm.size ≤ e.tm.size := by
  induction e <;> simp only [E.mapE] <;> refine Nat.le_trans (h _) ?_ <;> simp only [E.tm, nd, Tm.size, Tm.sizes] <;> omega
theorem E.simp_size (e : E) : e.simp.tm.size ≤ e.tm.size := E.mapE_size E.simp1_size e
/-- how many casts fall away -/
theorem Tm.red_ex (t : Tm) : ∃ n : Int, (t.castV = true → ∃ e : E, e.tm = t ∧ e.okC = true ∧ n = (e.tm.castsL.length : Int) - (e.simp.tm.castsL.length : Int)) ∧ (t.castV = false → n = 0) := by
  cases h : t.castV
  · exact ⟨0, by simp, fun _ => rfl⟩
  · obtain ⟨e, h1, h2⟩ := Tm.castV_E h
    exact ⟨_, fun _ => ⟨e, h1, h2, rfl⟩, by simp⟩
noncomputable def Tm.redV (t : Tm) : Int := (Tm.red_ex t).choose
theorem Tm.redV_spec (t : Tm) : (t.castV = true → ∃ e : E, e.tm = t ∧ e.okC = true ∧ Tm.redV t = (e.tm.castsL.length : Int) - (e.simp.tm.castsL.length : Int)) ∧ (t.castV = false → Tm.redV t = 0) := (Tm.red_ex t).choose_spec
theorem red_wrap {a b : Nat} (h1 : a < 100000000) (h2 : b < 100000000) : IntKind.i64.wrap ((a : Int) - (b : Int)) = (a : Int) - (b : Int) := IntWalk.i64_in _ (by omega)
end Go.Proofs.Grad
namespace Go.Proofs.Ytfgjiamolknicaa
open Go.RowKit Go.Proofs.Sh Go.Proofs.Grad
set_option maxRecDepth 100000
set_option maxHeartbeats 8000000
theorem l2CopyS (t : Tm) (hk : 0 < t.kids.length) (h : t.size < 274877906944) : ACl Try.prog 129 [.agg (teC t)] [] (fun r H' => r = .agg (teK t (.row 9 0 t.kids.length)) ∧ H' = [⟨9, 28, .mut, teR t.kids⟩]) := by
  refine (l2CopyO _ (Nat.le_refl _) t h).mono ?_
  rintro r H' (⟨h1, _⟩ | ⟨_, h2, h3⟩)
  · rw [h1] at hk; exact absurd hk (by simp)
  · exact ⟨h2, h3⟩
theorem sBack (s t : T) (l : Int) (a : E) (hs : s.depth ≤ 4) (h : (E.cast s t l a).wf = true) : AFn Try.prog 143 [.agg (teC (E.cast s t l a).tm)] (.one (.sc (.bool (backB s t a)))) := by
  cases a with
  | cast s' t' l' b =>
    simp only [E.wf, Bool.and_eq_true, decide_eq_true_eq] at h
    have h2 := sSame 1000 (by omega) s'.ty t.ty (T.ty_small h.2.2.2.1.1)
    have e2 : backB s t (.cast s' t' l' b) = (t'.ty.kind == 1 && (s.ty.kind == 1 && s'.ty.same t.ty)) := rfl
    rw [e2]
    simp only [E.tm]
    cases e3 : (t'.ty.kind == 1) <;> cases e4 : (s.ty.kind == 1) <;> cases e5 : s'.ty.same t.ty
    all_goals
      rw [e5] at h2
      refine fn_in ?_; refine acl_in Try.func143 rfl isfn_143 (Nat.le_of_ble_eq_true rfl) (fun R hR => ?_); rw [Try.results143] at hR; refine wg_run ?_; (simp only [Try.f143, go_sem])
      repeat' (first | (first | (simp only [go_sem, int_bne, e3, e4]) | (((first | refine sp1 ?_ ?_ | refine sp2 ?_ ?_ | refine sp3 ?_ ?_ | refine sp4 ?_ ?_ | refine sp5 ?_ ?_ | refine sp6 ?_ ?_ | refine sp7 ?_ ?_) <;> intro hb) <;> (simp only [go_sem, hb, int_bne, e3, e4])) | ((first | refine wm_done ?_ | refine wt_done ?_ | refine wg_run ?_ | refine fk ?_ ?_) <;> (simp only [go_sem, int_bne, e3, e4]))) | (first | refine cd (hc := h2) (hK := ?_) | refine cm (hc := h2) (hK := ?_) | refine ct (hc := h2) (hK := ?_)); (simp only [go_sem]))
      (refine hR _ (rat [] (hK := ⟨rfl, rfl⟩)))
  | _ =>
    simp only [backB, E.tm, nd]
    refine fn_in ?_; refine acl_in Try.func143 rfl isfn_143 (Nat.le_of_ble_eq_true rfl) (fun R hR => ?_); rw [Try.results143] at hR; refine wg_run ?_; (simp only [Try.f143, go_sem])
    repeat' (first | (simp only [go_sem, int_bne]) | (((first | refine sp1 ?_ ?_ | refine sp2 ?_ ?_ | refine sp3 ?_ ?_ | refine sp4 ?_ ?_ | refine sp5 ?_ ?_ | refine sp6 ?_ ?_ | refine sp7 ?_ ?_) <;> intro hb) <;> (simp only [go_sem, hb, int_bne])) | ((first | refine wm_done ?_ | refine wt_done ?_ | refine wg_run ?_ | refine fk ?_ ?_) <;> (simp only [go_sem, int_bne])))
    (refine hR _ (rat [] (hK := ⟨rfl, rfl⟩)))
theorem sSimple (e : E) : e.wf = true → e.tm.size < 274877906944 → AFn Try.prog 78 [.agg (teC e.tm)] (.agg (teC e.simp.tm)) := by
  unfold E.simp
  induction e with
  | var _ | num _ | tru | fls =>
    intro h hz
    have hc := l2Copy _ (Nat.le_refl _) _ hz
    simp only [E.mapE, E.simp1]
    simp only [E.tm, nd] at hc ⊢
    refine fn_in ?_; refine acl_in Try.func78 rfl isfn_78 (Nat.le_of_ble_eq_true rfl) (fun R hR => ?_); rw [Try.results78] at hR; refine wg_run ?_; (simp only [Try.f78, go_sem])
    repeat' (first | (first | (((first | refine sp1 ?_ ?_ | refine sp2 ?_ ?_ | refine sp3 ?_ ?_ | refine sp4 ?_ ?_ | refine sp5 ?_ ?_ | refine sp6 ?_ ?_ | refine sp7 ?_ ?_) <;> intro hb) <;> (simp only [go_sem, hb])) | ((first | refine wm_done ?_ | refine wt_done ?_ | refine wg_run ?_ | refine fk ?_ ?_) <;> (simp only [go_sem]))) | (first | (refine wl_next (wg_run ?_); (simp only [go_sem])) | refine wd_rounds 6 ?_) | (first | refine cd (hc := hc) (hK := ?_) | refine cm (hc := hc) (hK := ?_) | refine ct (hc := hc) (hK := ?_)); (simp only [go_sem]))
    (refine hR _ (rat [] (hK := ⟨rfl, rfl⟩)))
  | app a b iha ihb | add a b iha ihb | less a b iha ihb | pair a b iha ihb =>
    intro h hz
    simp only [E.wf, Bool.and_eq_true] at h
    have hc := l2CopyS _ (by simp [E.tm, nd, Tm.kids]) hz
    simp only [E.tm, nd, Tm.size, Tm.sizes] at hz
    have iha := iha h.1 (by omega)
    have ihb := ihb h.2 (by omega)
    simp only [E.mapE, E.simp1]
    simp only [E.tm, nd, teK, Tm.kind, Tm.name, Tm.num, Tm.type, Tm.frm, Tm.label, Tm.kids, teR, List.length_cons, List.length_nil] at hc ⊢
    refine fn_in ?_; refine acl_in Try.func78 rfl isfn_78 (Nat.le_of_ble_eq_true rfl) (fun R hR => ?_); rw [Try.results78] at hR; refine wg_run ?_; (simp only [Try.f78, go_sem])
    repeat' (first | (first | (((first | refine sp1 ?_ ?_ | refine sp2 ?_ ?_ | refine sp3 ?_ ?_ | refine sp4 ?_ ?_ | refine sp5 ?_ ?_ | refine sp6 ?_ ?_ | refine sp7 ?_ ?_) <;> intro hb) <;> (simp only [go_sem, hb])) | ((first | refine wm_done ?_ | refine wt_done ?_ | refine wg_run ?_ | refine fk ?_ ?_) <;> (simp only [go_sem]))) | (first | (refine wl_next (wg_run ?_); (simp only [go_sem])) | refine wd_rounds 6 ?_) | ((first | refine kd [] (hc := hc) (hK := ?_) | refine km [] (hc := hc) (hK := ?_) | refine kt [] (hc := hc) (hK := ?_)); rintro _ _ ⟨rfl, rfl⟩ <;> (simp only [go_sem])) | (first | refine cd (hc := iha) (hK := ?_) | refine cm (hc := iha) (hK := ?_) | refine ct (hc := iha) (hK := ?_)); (simp only [go_sem]) | (first | refine cd (hc := ihb) (hK := ?_) | refine cm (hc := ihb) (hK := ?_) | refine ct (hc := ihb) (hK := ?_)); (simp only [go_sem]) | ((first | refine mx 6 [] follows ?_ | refine mx 5 [] follows ?_ | refine mx 4 [] follows ?_ | refine mx 3 [] follows ?_ | refine mx 2 [] follows ?_ | refine mx 1 [] follows ?_ | refine mx 0 [] follows ?_ | fail); (simp only [go_sem])) | fail)
    (refine hR _ (rat [] (hK := ⟨rfl, rfl⟩)))
  | ite a b c iha ihb ihc =>
    intro h hz
    simp only [E.wf, Bool.and_eq_true] at h
    have hc := l2CopyS _ (by simp [E.tm, nd, Tm.kids]) hz
    simp only [E.tm, nd, Tm.size, Tm.sizes] at hz
    have iha := iha h.1 (by omega)
    have ihb := ihb h.2.1 (by omega)
    have ihc := ihc h.2.2 (by omega)
    simp only [E.mapE, E.simp1]
    simp only [E.tm, nd, teK, Tm.kind, Tm.name, Tm.num, Tm.type, Tm.frm, Tm.label, Tm.kids, teR, List.length_cons, List.length_nil] at hc ⊢
    refine fn_in ?_; refine acl_in Try.func78 rfl isfn_78 (Nat.le_of_ble_eq_true rfl) (fun R hR => ?_); rw [Try.results78] at hR; refine wg_run ?_; (simp only [Try.f78, go_sem])
    repeat' (first | (first | (((first | refine sp1 ?_ ?_ | refine sp2 ?_ ?_ | refine sp3 ?_ ?_ | refine sp4 ?_ ?_ | refine sp5 ?_ ?_ | refine sp6 ?_ ?_ | refine sp7 ?_ ?_) <;> intro hb) <;> (simp only [go_sem, hb])) | ((first | refine wm_done ?_ | refine wt_done ?_ | refine wg_run ?_ | refine fk ?_ ?_) <;> (simp only [go_sem]))) | (first | (refine wl_next (wg_run ?_); (simp only [go_sem])) | refine wd_rounds 6 ?_) | ((first | refine kd [] (hc := hc) (hK := ?_) | refine km [] (hc := hc) (hK := ?_) | refine kt [] (hc := hc) (hK := ?_)); rintro _ _ ⟨rfl, rfl⟩ <;> (simp only [go_sem])) | (first | refine cd (hc := iha) (hK := ?_) | refine cm (hc := iha) (hK := ?_) | refine ct (hc := iha) (hK := ?_)); (simp only [go_sem]) | (first | refine cd (hc := ihb) (hK := ?_) | refine cm (hc := ihb) (hK := ?_) | refine ct (hc := ihb) (hK := ?_)); (simp only [go_sem]) | (first | refine cd (hc := ihc) (hK := ?_) | refine cm (hc := ihc) (hK := ?_) | refine ct (hc := ihc) (hK := ?_)); (simp only [go_sem]) | ((first | refine mx 6 [] follows ?_ | refine mx 5 [] follows ?_ | refine mx 4 [] follows ?_ | refine mx 3 [] follows ?_ | refine mx 2 [] follows ?_ | refine mx 1 [] follows ?_ | refine mx 0 [] follows ?_ | fail); (simp only [go_sem])) | fail)
    (refine hR _ (rat [] (hK := ⟨rfl, rfl⟩)))
  | cast s t l a ih =>
    intro h hz
    have hw := h
    simp only [E.wf, Bool.and_eq_true, decide_eq_true_eq] at h
    have hc := l2CopyS _ (by simp [E.tm, nd, Tm.kids]) hz
    simp only [E.tm, nd, Tm.size, Tm.sizes] at hz
    have ih := ih h.2.2.2 (by omega)
    have hwa : (a.mapE E.simp1).wf = true := E.simp_wf a h.2.2.2
    have h1 := sSame 1000 (by omega) s.ty t.ty (T.ty_small h.1.1)
    have h2 := sBack s t l (a.mapE E.simp1) h.1.1 (by simp only [E.wf, Bool.and_eq_true, decide_eq_true_eq]; exact ⟨h.1, h.2.1, h.2.2.1, hwa⟩)
    simp only [E.mapE, E.simp1]
    generalize a.mapE E.simp1 = a' at *
    simp only [E.tm, nd, teK, Tm.kind, Tm.name, Tm.num, Tm.type, Tm.frm, Tm.label, Tm.kids, teR, List.length_cons, List.length_nil] at hc ⊢
    rw [teC_eq] at h2
    simp only [E.tm, nd, teR, Tm.kind, Tm.name, Tm.num, Tm.type, Tm.frm, Tm.label, Tm.kids] at h2
    cases e1 : s.ty.same t.ty
    · rw [e1] at h1
      cases e2 : backB s t a'
      · rw [e2] at h2
        refine fn_in ?_; refine acl_in Try.func78 rfl isfn_78 (Nat.le_of_ble_eq_true rfl) (fun R hR => ?_); rw [Try.results78] at hR; refine wg_run ?_; (simp only [Try.f78, go_sem])
        repeat' (first | (first | (((first | refine sp1 ?_ ?_ | refine sp2 ?_ ?_ | refine sp3 ?_ ?_ | refine sp4 ?_ ?_ | refine sp5 ?_ ?_ | refine sp6 ?_ ?_ | refine sp7 ?_ ?_) <;> intro hb) <;> (simp only [go_sem, hb])) | ((first | refine wm_done ?_ | refine wt_done ?_ | refine wg_run ?_ | refine fk ?_ ?_) <;> (simp only [go_sem]))) | (first | (refine wl_next (wg_run ?_); (simp only [go_sem])) | refine wd_rounds 6 ?_) | ((first | refine kd [] (hc := hc) (hK := ?_) | refine km [] (hc := hc) (hK := ?_) | refine kt [] (hc := hc) (hK := ?_)); rintro _ _ ⟨rfl, rfl⟩ <;> (simp only [go_sem])) | (first | refine cd (hc := ih) (hK := ?_) | refine cm (hc := ih) (hK := ?_) | refine ct (hc := ih) (hK := ?_)); (simp only [go_sem]) | (first | refine cd (hc := h1) (hK := ?_) | refine cm (hc := h1) (hK := ?_) | refine ct (hc := h1) (hK := ?_)); (simp only [go_sem]) | (first | refine cd (hc := h2) (hK := ?_) | refine cm (hc := h2) (hK := ?_) | refine ct (hc := h2) (hK := ?_)); (simp only [go_sem]) | ((first | refine mx 6 [] follows ?_ | refine mx 5 [] follows ?_ | refine mx 4 [] follows ?_ | refine mx 3 [] follows ?_ | refine mx 2 [] follows ?_ | refine mx 1 [] follows ?_ | refine mx 0 [] follows ?_ | fail); (simp only [go_sem])) | fail)
        (refine hR _ (rat [] (hK := ⟨rfl, rfl⟩)))
      · rw [e2] at h2
        cases a' with
        | cast s' t' l' b =>
          simp only [E.tm, nd, E.kid0] at *
          refine fn_in ?_; refine acl_in Try.func78 rfl isfn_78 (Nat.le_of_ble_eq_true rfl) (fun R hR => ?_); rw [Try.results78] at hR; refine wg_run ?_; (simp only [Try.f78, go_sem])
          repeat' (first | (first | (((first | refine sp1 ?_ ?_ | refine sp2 ?_ ?_ | refine sp3 ?_ ?_ | refine sp4 ?_ ?_ | refine sp5 ?_ ?_ | refine sp6 ?_ ?_ | refine sp7 ?_ ?_) <;> intro hb) <;> (simp only [go_sem, hb])) | ((first | refine wm_done ?_ | refine wt_done ?_ | refine wg_run ?_ | refine fk ?_ ?_) <;> (simp only [go_sem]))) | (first | (refine wl_next (wg_run ?_); (simp only [go_sem])) | refine wd_rounds 6 ?_) | ((first | refine kd [] (hc := hc) (hK := ?_) | refine km [] (hc := hc) (hK := ?_) | refine kt [] (hc := hc) (hK := ?_)); rintro _ _ ⟨rfl, rfl⟩ <;> (simp only [go_sem])) | (first | refine cd (hc := ih) (hK := ?_) | refine cm (hc := ih) (hK := ?_) | refine ct (hc := ih) (hK := ?_)); (simp only [go_sem]) | (first | refine cd (hc := h1) (hK := ?_) | refine cm (hc := h1) (hK := ?_) | refine ct (hc := h1) (hK := ?_)); (simp only [go_sem]) | (first | refine cd (hc := h2) (hK := ?_) | refine cm (hc := h2) (hK := ?_) | refine ct (hc := h2) (hK := ?_)); (simp only [go_sem]) | ((first | refine mx 6 [] follows ?_ | refine mx 5 [] follows ?_ | refine mx 4 [] follows ?_ | refine mx 3 [] follows ?_ | refine mx 2 [] follows ?_ | refine mx 1 [] follows ?_ | refine mx 0 [] follows ?_ | fail); (simp only [go_sem])) | fail)
          (refine hR _ (rat [] (hK := ⟨rfl, rfl⟩)))
        | _ => simp [backB] at e2
    · rw [e1] at h1
      simp only []
      refine fn_in ?_; refine acl_in Try.func78 rfl isfn_78 (Nat.le_of_ble_eq_true rfl) (fun R hR => ?_); rw [Try.results78] at hR; refine wg_run ?_; (simp only [Try.f78, go_sem])
      repeat' (first | (first | (((first | refine sp1 ?_ ?_ | refine sp2 ?_ ?_ | refine sp3 ?_ ?_ | refine sp4 ?_ ?_ | refine sp5 ?_ ?_ | refine sp6 ?_ ?_ | refine sp7 ?_ ?_) <;> intro hb) <;> (simp only [go_sem, hb])) | ((first | refine wm_done ?_ | refine wt_done ?_ | refine wg_run ?_ | refine fk ?_ ?_) <;> (simp only [go_sem]))) | (first | (refine wl_next (wg_run ?_); (simp only [go_sem])) | refine wd_rounds 6 ?_) | ((first | refine kd [] (hc := hc) (hK := ?_) | refine km [] (hc := hc) (hK := ?_) | refine kt [] (hc := hc) (hK := ?_)); rintro _ _ ⟨rfl, rfl⟩ <;> (simp only [go_sem])) | (first | refine cd (hc := ih) (hK := ?_) | refine cm (hc := ih) (hK := ?_) | refine ct (hc := ih) (hK := ?_)); (simp only [go_sem]) | (first | refine cd (hc := h1) (hK := ?_) | refine cm (hc := h1) (hK := ?_) | refine ct (hc := h1) (hK := ?_)); (simp only [go_sem]) | ((first | refine mx 6 [] follows ?_ | refine mx 5 [] follows ?_ | refine mx 4 [] follows ?_ | refine mx 3 [] follows ?_ | refine mx 2 [] follows ?_ | refine mx 1 [] follows ?_ | refine mx 0 [] follows ?_ | fail); (simp only [go_sem])) | fail)
      (refine hR _ (rat [] (hK := ⟨rfl, rfl⟩)))
  | lam x t a ih =>
    intro h hz
    simp only [E.wf, Bool.and_eq_true, decide_eq_true_eq] at h
    have hc := l2CopyS _ (by simp [E.tm, nd, Tm.kids]) hz
    simp only [E.tm, nd, Tm.size, Tm.sizes] at hz
    have ih := ih h.2.2 (by omega)
    simp only [E.mapE, E.simp1]
    simp only [E.tm, nd, teK, Tm.kind, Tm.name, Tm.num, Tm.type, Tm.frm, Tm.label, Tm.kids, teR, List.length_cons, List.length_nil] at hc ⊢
    refine fn_in ?_; refine acl_in Try.func78 rfl isfn_78 (Nat.le_of_ble_eq_true rfl) (fun R hR => ?_); rw [Try.results78] at hR; refine wg_run ?_; (simp only [Try.f78, go_sem])
    repeat' (first | (first | (((first | refine sp1 ?_ ?_ | refine sp2 ?_ ?_ | refine sp3 ?_ ?_ | refine sp4 ?_ ?_ | refine sp5 ?_ ?_ | refine sp6 ?_ ?_ | refine sp7 ?_ ?_) <;> intro hb) <;> (simp only [go_sem, hb])) | ((first | refine wm_done ?_ | refine wt_done ?_ | refine wg_run ?_ | refine fk ?_ ?_) <;> (simp only [go_sem]))) | (first | (refine wl_next (wg_run ?_); (simp only [go_sem])) | refine wd_rounds 6 ?_) | ((first | refine kd [] (hc := hc) (hK := ?_) | refine km [] (hc := hc) (hK := ?_) | refine kt [] (hc := hc) (hK := ?_)); rintro _ _ ⟨rfl, rfl⟩ <;> (simp only [go_sem])) | (first | refine cd (hc := ih) (hK := ?_) | refine cm (hc := ih) (hK := ?_) | refine ct (hc := ih) (hK := ?_)); (simp only [go_sem]) | ((first | refine mx 6 [] follows ?_ | refine mx 5 [] follows ?_ | refine mx 4 [] follows ?_ | refine mx 3 [] follows ?_ | refine mx 2 [] follows ?_ | refine mx 1 [] follows ?_ | refine mx 0 [] follows ?_ | fail); (simp only [go_sem])) | fail)
    (refine hR _ (rat [] (hK := ⟨rfl, rfl⟩)))
  | fst a ih | snd a ih =>
    intro h hz
    simp only [E.wf, Bool.and_eq_true, decide_eq_true_eq] at h
    have hc := l2CopyS _ (by simp [E.tm, nd, Tm.kids]) hz
    simp only [E.tm, nd, Tm.size, Tm.sizes] at hz
    have ih := ih h (by omega)
    simp only [E.mapE, E.simp1]
    simp only [E.tm, nd, teK, Tm.kind, Tm.name, Tm.num, Tm.type, Tm.frm, Tm.label, Tm.kids, teR, List.length_cons, List.length_nil] at hc ⊢
    refine fn_in ?_; refine acl_in Try.func78 rfl isfn_78 (Nat.le_of_ble_eq_true rfl) (fun R hR => ?_); rw [Try.results78] at hR; refine wg_run ?_; (simp only [Try.f78, go_sem])
    repeat' (first | (first | (((first | refine sp1 ?_ ?_ | refine sp2 ?_ ?_ | refine sp3 ?_ ?_ | refine sp4 ?_ ?_ | refine sp5 ?_ ?_ | refine sp6 ?_ ?_ | refine sp7 ?_ ?_) <;> intro hb) <;> (simp only [go_sem, hb])) | ((first | refine wm_done ?_ | refine wt_done ?_ | refine wg_run ?_ | refine fk ?_ ?_) <;> (simp only [go_sem]))) | (first | (refine wl_next (wg_run ?_); (simp only [go_sem])) | refine wd_rounds 6 ?_) | ((first | refine kd [] (hc := hc) (hK := ?_) | refine km [] (hc := hc) (hK := ?_) | refine kt [] (hc := hc) (hK := ?_)); rintro _ _ ⟨rfl, rfl⟩ <;> (simp only [go_sem])) | (first | refine cd (hc := ih) (hK := ?_) | refine cm (hc := ih) (hK := ?_) | refine ct (hc := ih) (hK := ?_)); (simp only [go_sem]) | ((first | refine mx 6 [] follows ?_ | refine mx 5 [] follows ?_ | refine mx 4 [] follows ?_ | refine mx 3 [] follows ?_ | refine mx 2 [] follows ?_ | refine mx 1 [] follows ?_ | refine mx 0 [] follows ?_ | fail); (simp only [go_sem])) | fail)
    (refine hR _ (rat [] (hK := ⟨rfl, rfl⟩)))
  | _ =>
    rename_i t a ih
    intro h hz
    simp only [E.wf, Bool.and_eq_true, decide_eq_true_eq] at h
    have hc := l2CopyS _ (by simp [E.tm, nd, Tm.kids]) hz
    simp only [E.tm, nd, Tm.size, Tm.sizes] at hz
    have ih := ih h.2 (by omega)
    simp only [E.mapE, E.simp1]
    simp only [E.tm, nd, teK, Tm.kind, Tm.name, Tm.num, Tm.type, Tm.frm, Tm.label, Tm.kids, teR, List.length_cons, List.length_nil] at hc ⊢
    refine fn_in ?_; refine acl_in Try.func78 rfl isfn_78 (Nat.le_of_ble_eq_true rfl) (fun R hR => ?_); rw [Try.results78] at hR; refine wg_run ?_; (simp only [Try.f78, go_sem])
    repeat' (first | (first | (((first | refine sp1 ?_ ?_ | refine sp2 ?_ ?_ | refine sp3 ?_ ?_ | refine sp4 ?_ ?_ | refine sp5 ?_ ?_ | refine sp6 ?_ ?_ | refine sp7 ?_ ?_) <;> intro hb) <;> (simp only [go_sem, hb])) | ((first | refine wm_done ?_ | refine wt_done ?_ | refine wg_run ?_ | refine fk ?_ ?_) <;> (simp only [go_sem]))) | (first | (refine wl_next (wg_run ?_); (simp only [go_sem])) | refine wd_rounds 6 ?_) | ((first | refine kd [] (hc := hc) (hK := ?_) | refine km [] (hc := hc) (hK := ?_) | refine kt [] (hc := hc) (hK := ?_)); rintro _ _ ⟨rfl, rfl⟩ <;> (simp only [go_sem])) | (first | refine cd (hc := ih) (hK := ?_) | refine cm (hc := ih) (hK := ?_) | refine ct (hc := ih) (hK := ?_)); (simp only [go_sem]) | ((first | refine mx 6 [] follows ?_ | refine mx 5 [] follows ?_ | refine mx 4 [] follows ?_ | refine mx 3 [] follows ?_ | refine mx 2 [] follows ?_ | refine mx 1 [] follows ?_ | refine mx 0 [] follows ?_ | fail); (simp only [go_sem])) | fail)
    (refine hR _ (rat [] (hK := ⟨rfl, rfl⟩)))
end Go.Proofs.Ytfgjiamolknicaa
/- Owned trees: rows changed where they lie. -/
namespace Go.Proofs.Sh
def dgs (k : Nat) (out : ByteArray) : ByteArray := if h : k = 0 then out else dgs (k / 10) (bytesOf [((48 + k % 10 : Nat) : Int)] ++ out)
termination_by k
decreasing_by omega
theorem dgs_zero (out : ByteArray) : dgs 0 out = out := by rw [dgs]; simp
theorem dgs_pos {k : Nat} (h : 0 < k) (out : ByteArray) : dgs k out = dgs (k / 10) (bytesOf [((48 + k % 10 : Nat) : Int)] ++ out) := by
  rw [dgs, dif_neg (by omega)]
def mkT (k : Nat) : ByteArray := ⟨#[109]⟩ ++ dgs k ByteArray.empty
end Go.Proofs.Sh
namespace Go.Proofs.Sh
open Go.RowKit Go.Proofs.Grad

/-- a row of an owned slice, and what is so when it has been changed -/
theorem row_upd {h : List Blk} {d s b n i : Nat} {R : List (List C)} {js : List Nat} (h0 : ow h (d + 1) (.row s b n) = some (.sl R, b :: js)) (hn : (b :: js).Nodup) (hi : i < R.length) :
    ∃ ty rows r E pre is post, h[b]? = some ⟨s, ty, .mut, rows⟩ ∧ rows.length = n ∧ R.length = n ∧ rows[i]? = some r ∧ R[i]? = some E ∧ r.length = s ∧ fzL (ow h d) r = some (E, is) ∧ js = pre ++ (is ++ post) ∧ is.Nodup ∧ b ∉ is ∧ (∀ x ∈ pre ++ post, x ∉ is ∧ x ≠ b) ∧
      (∀ h2 r' E', r'.length = s → h2[b]? = some ⟨s, ty, .mut, rows.set i r'⟩ → fzL (ow h2 d) r' = some (E', is) → (∀ x ∈ pre ++ post, h2[x]? = h[x]?) → ow h2 (d + 1) (.row s b n) = some (.sl (R.set i E'), b :: js)) := by
  obtain ⟨d', k, R', js', e, h1, h2, h3, h4, h5, h6, h7, h8⟩ := ow_row h0
  cases e; cases h7; cases h8
  obtain ⟨ks, kty, kst, rows⟩ := k
  simp only at h2 h3 h4 h5 h6
  have hst : kst = .mut := by cases kst <;> simp [St.isMut] at h2 ⊢
  subst hst h4
  have hl := fzRows_len h6
  have hir : i < rows.length := by omega
  obtain ⟨E, pre, is, post, q1, q2, q3, q4, q5⟩ := fzRows_split h6 (List.getElem?_eq_getElem hir)
  obtain ⟨hb, hjs⟩ := List.nodup_cons.1 hn
  have hjs' := hjs
  rw [q3] at hjs' hb
  obtain ⟨a1, a2, a3⟩ := List.nodup_append.1 hjs'
  obtain ⟨a4, a5, a6⟩ := List.nodup_append.1 a2
  refine ⟨kty, rows, rows[i], E, pre, is, post, h1, h3, by omega, List.getElem?_eq_getElem hir, q1, rowsLen_spec h5 _ (List.getElem_mem hir), q2, q3, a4, fun hm => hb (by simp [hm]), fun x hx => ⟨fun hm => ?_, fun e => hb (by subst e; rcases List.mem_append.1 hx with hx | hx <;> simp [hx])⟩, fun h2' r' E' hr hb he hx => ?_⟩
  · rcases List.mem_append.1 hx with hx | hx
    · exact a3 x hx x (by simp [hm]) rfl
    · exact a6 x hm x hx rfl
  · refine ow_row_of hb rfl (by simp [h3]) rfl ?_ ?_
    · simp only [rowsLen, List.all_eq_true, beq_iff_eq]
      intro x hx
      rcases List.mem_or_eq_of_mem_set hx with hx | rfl
      · exact rowsLen_spec h5 x hx
      · exact hr
    · rw [q3]
      exact fzRows_set hir hl (owR_frame q4 (fun x hx' => hx x (by simp [hx']))) he (owR_frame q5 (fun x hx' => hx x (by simp [hx'])))
theorem owR_lt {h : List Blk} {d s b n : Nat} {c' : C} {js : List Nat} (h0 : ow h d (.row s b n) = some (c', b :: js)) (x : Nat) (hx : x ∈ js) : x < h.length := (ow_mut h0 x (by simp [hx])).lt
end Go.Proofs.Sh
namespace Go.Proofs.Grad
mutual
def Ty.mark : Ty → Nat → Ty
  | .mk _ l, k => .mk (k : Int) (Ty.marks l (k + 1))
def Ty.marks : List Ty → Nat → List Ty
  | [], _ => []
  | t :: l, k => t.mark k :: Ty.marks l (k + t.size)
end
theorem Ty.mark_eq (t : Ty) (k : Nat) : t.mark k = .mk (k : Int) (Ty.marks t.kids (k + 1)) := by cases t; rfl
theorem Ty.marks_append : ∀ (l m : List Ty) (k : Nat), Ty.marks (l ++ m) k = Ty.marks l k ++ Ty.marks m (k + Ty.sizes l)
  | [], m, k => by simp [Ty.marks, Ty.sizes]
  | t :: l, m, k => by simp only [List.cons_append, Ty.marks, Ty.sizes, Ty.marks_append l m, Nat.add_assoc]
theorem Ty.marks_length : ∀ (l : List Ty) (k : Nat), (Ty.marks l k).length = l.length
  | [], _ => rfl
  | t :: l, k => by simp [Ty.marks, Ty.marks_length l]
theorem Ty.sizes_append : ∀ (l m : List Ty), Ty.sizes (l ++ m) = Ty.sizes l + Ty.sizes m
  | [], m => by simp [Ty.sizes]
  | t :: l, m => by simp only [List.cons_append, Ty.sizes, Ty.sizes_append l m, Nat.add_assoc]
/-- a list of which the first i are marked -/
def Ty.part (l : List Ty) (k i : Nat) : List Ty := Ty.marks (l.take i) k ++ l.drop i
theorem Ty.part_length (l : List Ty) (k i : Nat) : (Ty.part l k i).length = l.length := by
  simp only [Ty.part, List.length_append, Ty.marks_length, List.length_take, List.length_drop]; omega
end Go.Proofs.Grad
namespace Go.Proofs.Sh
open Go.RowKit Go.Proofs.Grad
theorem Ty.part_get {l : List Ty} {k i : Nat} (h : i < l.length) : (Ty.part l k i)[i]? = some (kid l i) := by
  have hl : (Ty.marks (l.take i) k).length = i := by rw [Ty.marks_length, List.length_take]; omega
  rw [Ty.part, List.getElem?_append_right (by omega), hl, Nat.sub_self, drop_kid h]; rfl
theorem Ty.part_set {l : List Ty} {k i : Nat} (h : i < l.length) : (Ty.part l k i).set i ((kid l i).mark (k + Ty.sizes (l.take i))) = Ty.part l k (i + 1) := by
  have hl : (Ty.marks (l.take i) k).length = i := by rw [Ty.marks_length, List.length_take]; omega
  rw [Ty.part, List.set_append_right _ _ (by omega), hl, Nat.sub_self, drop_kid h, Ty.part, take_kid h, Ty.marks_append]
  simp [Ty.marks]
theorem Ty.sizes_take {l : List Ty} {i : Nat} (h : i < l.length) : Ty.sizes (l.take (i + 1)) = Ty.sizes (l.take i) + (kid l i).size := by
  rw [take_kid h, Ty.sizes_append]; simp [Ty.sizes]
theorem tyR_set (l : List Ty) (i : Nat) (t : Ty) : (tyR l).set i (tyC t) = tyR (l.set i t) := by
  induction l generalizing i with
  | nil => rfl
  | cons x l ih => cases i <;> simp [tyR, ih]
theorem Ty.sizes_take_le (l : List Ty) (i : Nat) : Ty.sizes (l.take i) ≤ Ty.sizes l := by
  have := Ty.sizes_append (l.take i) (l.drop i)
  rw [List.take_append_drop] at this; omega
end Go.Proofs.Sh
namespace Go.Proofs.Grad
open Go.Proofs.Sh
theorem Ty.marks_nodes : ∀ (l : List Ty) (k : Nat), Ty.sizes (Ty.marks l k) = Ty.sizes l
  | [], _ => rfl
  | .mk _ a :: l, k => by simp only [Ty.marks, Ty.mark, Ty.sizes, Ty.size, Ty.marks_nodes a, Ty.marks_nodes l]
mutual
/-- how many marks a term takes -/
def Tm.mw : Tm → Nat
  | .mk _ _ _ t f _ l => 6 + (Ty.sizes t.kids + (Ty.sizes f.kids + Tm.mws l))
def Tm.mws : List Tm → Nat
  | [] => 0
  | t :: l => t.mw + Tm.mws l
end
mutual
def Tm.mark : Tm → Nat → Tm
  | .mk _ _ _ t f _ l, k => .mk (k : Int) (mkT (k + 1)) ((k + 2 : Nat) : Int) (.mk ((k + 3 : Nat) : Int) (Ty.marks t.kids (k + 4))) (.mk ((k + 4 + Ty.sizes t.kids : Nat) : Int) (Ty.marks f.kids (k + 4 + Ty.sizes t.kids + 1)))
      ((k + 4 + Ty.sizes t.kids + 1 + Ty.sizes f.kids : Nat) : Int) (Tm.marks l (k + 4 + Ty.sizes t.kids + 1 + Ty.sizes f.kids + 1))
def Tm.marks : List Tm → Nat → List Tm
  | [], _ => []
  | t :: l, k => t.mark k :: Tm.marks l (k + t.mw)
end
theorem Tm.mark_eq (t : Tm) (k : Nat) : t.mark k = .mk (k : Int) (mkT (k + 1)) ((k + 2 : Nat) : Int) (.mk ((k + 3 : Nat) : Int) (Ty.marks t.type.kids (k + 4))) (.mk ((k + 4 + Ty.sizes t.type.kids : Nat) : Int) (Ty.marks t.frm.kids (k + 4 + Ty.sizes t.type.kids + 1)))
      ((k + 4 + Ty.sizes t.type.kids + 1 + Ty.sizes t.frm.kids : Nat) : Int) (Tm.marks t.kids (k + 4 + Ty.sizes t.type.kids + 1 + Ty.sizes t.frm.kids + 1)) := by cases t; rfl
theorem Tm.mw_eq (t : Tm) : t.mw = 6 + (Ty.sizes t.type.kids + (Ty.sizes t.frm.kids + Tm.mws t.kids)) := by cases t; rfl
theorem Tm.marks_append : ∀ (l m : List Tm) (k : Nat), Tm.marks (l ++ m) k = Tm.marks l k ++ Tm.marks m (k + Tm.mws l)
  | [], m, k => by simp [Tm.marks, Tm.mws]
  | t :: l, m, k => by simp only [List.cons_append, Tm.marks, Tm.mws, Tm.marks_append l m, Nat.add_assoc]
theorem Tm.marks_length : ∀ (l : List Tm) (k : Nat), (Tm.marks l k).length = l.length
  | [], _ => rfl
  | t :: l, k => by simp [Tm.marks, Tm.marks_length l]
theorem Tm.mws_append : ∀ (l m : List Tm), Tm.mws (l ++ m) = Tm.mws l + Tm.mws m
  | [], m => by simp [Tm.mws]
  | t :: l, m => by simp only [List.cons_append, Tm.mws, Tm.mws_append l m, Nat.add_assoc]
def Tm.part (l : List Tm) (k i : Nat) : List Tm := Tm.marks (l.take i) k ++ l.drop i
theorem Tm.part_length (l : List Tm) (k i : Nat) : (Tm.part l k i).length = l.length := by
  simp only [Tm.part, List.length_append, Tm.marks_length, List.length_take, List.length_drop]; omega
theorem Tm.part_get {l : List Tm} {k i : Nat} (h : i < l.length) : (Tm.part l k i)[i]? = some (teKid l i) := by
  have hl : (Tm.marks (l.take i) k).length = i := by rw [Tm.marks_length, List.length_take]; omega
  rw [Tm.part, List.getElem?_append_right (by omega), hl, Nat.sub_self, tedrop_kid h]; rfl
theorem Tm.part_set {l : List Tm} {k i : Nat} (h : i < l.length) : (Tm.part l k i).set i ((teKid l i).mark (k + Tm.mws (l.take i))) = Tm.part l k (i + 1) := by
  have hl : (Tm.marks (l.take i) k).length = i := by rw [Tm.marks_length, List.length_take]; omega
  rw [Tm.part, List.set_append_right _ _ (by omega), hl, Nat.sub_self, tedrop_kid h, Tm.part, tetake_kid h, Tm.marks_append]
  simp [Tm.marks]
theorem Tm.mws_take {l : List Tm} {i : Nat} (h : i < l.length) : Tm.mws (l.take (i + 1)) = Tm.mws (l.take i) + (teKid l i).mw := by
  rw [tetake_kid h, Tm.mws_append]; simp [Tm.mws]
theorem Tm.mws_take_le (l : List Tm) (i : Nat) : Tm.mws (l.take i) ≤ Tm.mws l := by
  have := Tm.mws_append (l.take i) (l.drop i)
  rw [List.take_append_drop] at this; omega
theorem Tm.len_mws : ∀ l : List Tm, l.length ≤ Tm.mws l
  | [] => Nat.le_refl _
  | t :: l => by have := Tm.len_mws l; have := t.mw_eq; simp only [List.length_cons, Tm.mws]; omega
end Go.Proofs.Grad
namespace Go.Proofs.Sh
open Go.RowKit Go.Proofs.Grad
theorem teR_set (l : List Tm) (i : Nat) (t : Tm) : (teR l).set i (teC t) = teR (l.set i t) := by
  induction l generalizing i with
  | nil => rfl
  | cons x l ih => cases i <;> simp [teR, ih]
end Go.Proofs.Sh
/- Owned trees behind known blocks: calls that make, read and mark them. -/
namespace Go.Proofs.Sh
open Go.RowKit Go.Proofs.Grad

/-- a struct's cells, a tree owned in T, which lies behind p blocks -/
structure OwnT (p : Nat) (T : List Blk) (cs enc : List C) (ids : List Nat) : Prop where
  nodup : ids.Nodup
  ge : ∀ b ∈ ids, p ≤ b
  own : ∃ d, ∀ pre : List Blk, pre.length = p → fzL (ow (pre ++ T) d) cs = some (enc, ids)
theorem OwnT.lt {p : Nat} {T : List Blk} {cs enc : List C} {ids : List Nat} (h : OwnT p T cs enc ids) : ∀ b ∈ ids, b < T.length + p := fun b hb => by
  obtain ⟨d, hd⟩ := h.own
  have := (owL_mut (hd (List.replicate p ⟨0, 0, .dead, []⟩) (by simp)) b hb).lt
  simp only [List.length_append, List.length_replicate] at this; omega
theorem OwnT.len {p : Nat} {T : List Blk} {cs enc : List C} {ids : List Nat} (h : OwnT p T cs enc ids) : cs.length = enc.length := by
  obtain ⟨d, hd⟩ := h.own
  exact (fzL_len (hd (List.replicate p ⟨0, 0, .dead, []⟩) (by simp))).symm
theorem OwnT.ext {p : Nat} {T T' : List Blk} {cs enc : List C} {ids : List Nat} (h : OwnT p T cs enc ids) (hf : ∀ i, i < T.length → i + p ∈ ids → T'[i]? = T[i]?) : OwnT p T' cs enc ids := by
  refine ⟨h.nodup, h.ge, ?_⟩
  obtain ⟨d, hd⟩ := h.own
  refine ⟨d, fun pre hp => owL_frame (hd pre hp) (fun b hb => ?_)⟩
  have h1 := h.ge b hb
  have h2 := h.lt b hb
  rw [List.getElem?_append_right (by omega), List.getElem?_append_right (by omega), hp]
  exact hf _ (by omega) (by rw [Nat.sub_add_cancel h1]; exact hb)
theorem OwnT.app {p : Nat} {T : List Blk} {cs enc : List C} {ids : List Nat} (h : OwnT p T cs enc ids) (X : List Blk) : OwnT p (T ++ X) cs enc ids := h.ext (fun i hi _ => List.getElem?_append_left hi)
theorem OwnT.lent {p : Nat} {T pre : List Blk} {cs enc : List C} {ids : List Nat} (h : OwnT p T cs enc ids) (hp : pre.length = p) : Lent (pre ++ T) (.agg cs) (.agg enc) ids := by
  obtain ⟨d, hd⟩ := h.own
  exact .agg (hd pre hp)

/-- a call that yields an owned tree -/
theorem acalls_ownT {P : Program} {f : FuncId} {args args' : List AV} {p : Nat} {pre T : List Blk} {is : List Nat} {enc : List C} {F : List C → AV} (hp : pre.length = p) (hz : Lents (pre ++ T) args args' is) (hc : ACl P f args' [] (OwnK enc F)) (hF : ∀ cs, cs.all C.flat = true → (F cs).flat = true) (hR : ∀ cs g, (F cs).ren g = F (cs.map (C.ren g))) :
    ACalls P f args (pre ++ T) [] (fun r h' => ∃ cs T' ids, r = F cs ∧ h' = pre ++ T' ∧ T.length ≤ T'.length ∧ (∀ i, i < T.length → T'[i]? = T[i]?) ∧ OwnT p T' cs enc ids ∧ ∀ b ∈ ids, T.length + p ≤ b) := by
  refine (acalls_own hz hc hF hR).mono ?_
  rintro r h' ⟨cs, d, ids, rfl, e1, e2, e3, e4, e5⟩
  obtain ⟨T', rfl, f1, f2⟩ := pre_split pre e4 e5
  have hge : ∀ b ∈ ids, T.length + p ≤ b := fun b hb => by have := (e3 b hb).1; simp only [List.length_append] at this; omega
  refine ⟨cs, T', ids, rfl, rfl, f1, f2, ⟨e2, fun b hb => by have := hge b hb; omega, d, fun pre' hp' => ?_⟩, hge⟩
  exact owL_pre (by omega) (fun _ _ => rfl) e1 (fun b hb => by have := hge b hb; omega)
/-- a call that reads owned trees -/
theorem acalls_readT {P : Program} {f : FuncId} {args args' : List AV} {h : List Blk} {is : List Nat} {v : Value} (hz : Lents h args args' is) (hc : AFn P f args' (.one (.sc v))) : ACalls P f args h [] (fun r' h' => r' = .one (.sc v) ∧ h' = h) :=
  acalls_read hz hc rfl (fun _ => rfl)
/-- a call that changes an owned tree -/
theorem acalls_changeT {P : Program} {f : FuncId} {args : List AV} {p : Nat} {pre T : List Blk} {cs enc : List C} {ids : List Nat} {v : Value} (hp : pre.length = p) (hge : ∀ b ∈ ids, p ≤ b) (hn : ids.Nodup)
    (hc : ∃ d, ACl P f args (pre ++ T) (fun r h' => r = .one (.sc v) ∧ fzL (ow h' d) cs = some (enc, ids) ∧ (pre ++ T).length ≤ h'.length ∧ ∀ b, b < (pre ++ T).length → b ∉ ids → h'[b]? = (pre ++ T)[b]?)) :
    ∃ ks, ACalls P f args (pre ++ T) ks (fun r h' => ∃ T', r = .one (.sc v) ∧ h' = pre ++ T' ∧ T.length ≤ T'.length ∧ (∀ i, i < T.length → i + p ∉ ids → T'[i]? = T[i]?) ∧ OwnT p T' cs enc ids) := by
  obtain ⟨d, hc⟩ := hc
  refine ⟨_, (acalls_full hc).mono ?_⟩
  rintro r h' ⟨rfl, e1, e2, e3⟩
  have hh : h' = pre ++ h'.drop pre.length := by
    apply List.ext_getElem?
    intro i
    by_cases hi : i < pre.length
    · rw [e3 i (by simp only [List.length_append]; omega) (fun hm => by have := hge i hm; omega), List.getElem?_append_left hi, List.getElem?_append_left hi]
    · rw [List.getElem?_append_right (by omega), List.getElem?_drop]; congr 1; omega
  refine ⟨h'.drop pre.length, rfl, hh, by simp only [List.length_append, List.length_drop] at *; omega, fun i hi hm => ?_, hn, hge, d, fun pre' hp' => ?_⟩
  · rw [List.getElem?_drop, e3 _ (by simp only [List.length_append]; omega) (by rw [hp, Nat.add_comm]; exact hm), List.getElem?_append_right (by omega)]
    congr 1; omega
  · rw [hh] at e1
    exact owL_pre (by omega) (fun _ _ => rfl) e1 (fun b hb => by have := hge b hb; omega)
theorem wm_at {P : Program} {N : Nat} {R : ASt → Prop} {c : MC} {k : List Item} {f : FuncId} {args : List AV} {o : Oper} {l : List Oper} {U : List Nat} {ok : Bool} {s : ASt} {ks : List Nat} {K' : AV → List Blk → Prop} {h0 : List Blk} (hc : ACalls P f args h0 ks K') (hok : ((ok && ks.all c.ms.contains) || decide (l.length < c.f)) = true)
    (hmut : c.ms.all (fun b => match c.h0[b]? with | some k => k.st.isMut | none => false) = true) (hs : h0 = s.h)
    (hK : ∀ r h', K' r h' → WM P N c R k (mrun P c l (addU o.dst U) (ok && ks.all c.ms.contains) (ASt.put ⟨s.n, s.t, h'⟩ o.dst r))) : WM P N c R k (.call f args o l U ok s) := by
  subst hs
  exact wm_any hc hok hmut hK
/-- a list of terms' marks are few -/
theorem _root_.Go.Proofs.Grad.Ty.sizes_kids (t : Ty) : Ty.sizes t.kids < t.size := by cases t; simp only [Ty.size, Ty.kids]; omega
end Go.Proofs.Sh
namespace Go.Proofs.Grad
mutual
theorem Tm.mw_le : ∀ t : Tm, t.mw ≤ 6 * t.size
  | .mk k n m t f l a => by
    have h1 := Ty.sizes_kids t; have h2 := Ty.sizes_kids f; have h3 := Tm.mws_le a
    simp only [Tm.mw, Tm.size]; omega
theorem Tm.mws_le : ∀ l : List Tm, Tm.mws l ≤ 6 * Tm.sizes l
  | [] => Nat.le_refl _
  | t :: l => by have h1 := Tm.mw_le t; have h2 := Tm.mws_le l; simp only [Tm.mws, Tm.sizes]; omega
end
end Go.Proofs.Grad
/- Owned results, and the same seen as frozen ones. -/
namespace Go.Proofs.Sh
open Go.RowKit Go.Proofs.Grad

@[go_sem] theorem app3a {α : Type} (T : List α) (x y z : α) : (T ++ [x] ++ [y] ++ [z])[T.length]? = some x := by simp
@[go_sem] theorem app3b {α : Type} (T : List α) (x y z : α) : (T ++ [x] ++ [y] ++ [z])[T.length + 1]? = some y := by simp
@[go_sem] theorem app3c {α : Type} (T : List α) (x y z : α) : (T ++ [x] ++ [y] ++ [z])[T.length + 1 + 1]? = some z := by
  rw [List.append_assoc, List.append_assoc, List.getElem?_append_right (by omega), show T.length + 1 + 1 - T.length = 2 from by omega]; rfl
@[go_sem] theorem set3a {α : Type} (T : List α) (x y z u : α) : (T ++ [x] ++ [y] ++ [z]).set T.length u = T ++ [u] ++ [y] ++ [z] := by simp
@[go_sem] theorem set3b {α : Type} (T : List α) (x y z u : α) : (T ++ [x] ++ [y] ++ [z]).set (T.length + 1) u = T ++ [x] ++ [u] ++ [z] := by simp
@[go_sem] theorem set3c {α : Type} (T : List α) (x y z u : α) : (T ++ [x] ++ [y] ++ [z]).set (T.length + 1 + 1) u = T ++ [x] ++ [y] ++ [u] := by
  rw [List.append_assoc, List.append_assoc, List.set_append_right _ _ (by omega), show T.length + 1 + 1 - T.length = 2 from by omega]; simp
/-- a slice of one row, owned -/
theorem ow_kid1 {h : List Blk} {d : Nat} {c : C} {E : List C} {ids : List Nat} (e : ow h d c = some (.sl [E], ids)) : ∃ d' s b ty r js, c = .row s b 1 ∧ h[b]? = some ⟨s, ty, .mut, [r]⟩ ∧ r.length = s ∧ fzL (ow h d') r = some (E, js) ∧ ids = b :: js := by
  cases c with
  | row s b n =>
    obtain ⟨d', k, R, js, rfl, h1, h2, h3, h4, h5, h6, h7, rfl⟩ := ow_row e
    cases h7
    obtain ⟨ks, kty, kst, rows⟩ := k
    simp only at h2 h3 h4 h5 h6
    have hst : kst = .mut := by cases kst <;> simp [St.isMut] at h2 ⊢
    subst hst h4
    have hl := fzRows_len h6
    match rows, hl with
    | [r], _ =>
      simp only [fzRows] at h6
      split at h6
      · rename_i c1 i c2 j g1 g2
        simp only [Option.some.injEq, Prod.mk.injEq, List.cons.injEq] at g2 h6
        obtain ⟨⟨rfl, _⟩, rfl⟩ := h6
        obtain ⟨rfl, rfl⟩ := g2
        simp only [rowsLen, List.all_cons, List.all_nil, Bool.and_true, beq_iff_eq] at h5
        simp only [List.length_cons, List.length_nil] at h3
        subst h3
        exact ⟨d', s, b, kty, r, i, rfl, h1, h5, g1, by simp⟩
      · cases h6
  | _ =>
    rw [ow_leaf (by simp)] at e
    obtain ⟨rfl, ⟨h1, h2⟩ | ⟨v, h1, hv, h2⟩ | ⟨h1, h2⟩⟩ := leaf_cases e <;> cases h2

/-- what stands about a struct's cells in a result -/
structure WF (F : List C → AV) : Prop where
  flat : ∀ cs, cs.all C.flat = true → (F cs).flat = true
  ren : ∀ cs g, (F cs).ren g = F (cs.map (C.ren g))
  pr : ∀ {h : List Blk} {ids : List Nat} {cs cs' : List C}, prL false h ids cs = some (cs', []) → prVs false h ids [F cs] = some ([F cs'], [])
  frz : ∀ {L L' μ : List Nat} {w : World} {cs enc : List C} {v : Value}, (∀ us, C.repl L μ w cs us → C.repl L' [] w enc us) → AV.rep L μ w (F cs) v → AV.rep L' [] w (F enc) v
theorem WF.agg : WF .agg := ⟨fun _ h => h, ren_agg, prVs_agg, fun h hr => by
  simp only [AV.rep] at hr ⊢
  obtain ⟨arr, rfl, h2⟩ := hr
  exact ⟨arr, rfl, h _ h2⟩⟩
def boolF (b : Bool) (cs : List C) : AV := .tup [.agg cs, .one (.sc (.bool b))]
theorem WF.bool (b : Bool) : WF (boolF b) :=
  ⟨fun cs h => by simp only [boolF, AV.flat, AV.flats, h, C.flat, Bool.and_true], fun cs g => by simp only [boolF, AV.ren, AV.renL, renA_map, C.ren],
   fun e => by simp only [boolF, prVs, prV, e, prC, List.append_nil], fun h hr => by
    simp only [boolF, AV.rep, AV.repl] at hr ⊢
    obtain ⟨arr, rfl, u, us', e1, ⟨a2, rfl, h2⟩, h3⟩ := hr
    exact ⟨arr, rfl, .agg a2, us', e1, ⟨a2, rfl, h _ h2⟩, by simpa only [C.rep] using h3⟩⟩
/-- a function that yields an owned tree yields a tree -/
theorem own_frz {P : Program} {f : FuncId} {args : List AV} {enc : List C} {F : List C → AV} (hF : WF F) (h : ACl P f args [] (OwnK enc F)) : AFn P f args (F enc) := by
  obtain ⟨⟨hfn, hcall⟩⟩ := h
  refine ⟨⟨hfn, fun X μ w vs hS hr => (hcall X μ w vs hS hr).mono ?_⟩⟩
  rintro e w' ⟨r, H', μ', v, he, ⟨cs, d, ids, rfl, e1, e2, e3⟩, s1, s2, s3⟩
  have hX : ∀ x ∈ X, x ∈ X ++ alive μ' H' := fun x hx => List.mem_append.2 (.inl hx)
  refine ⟨F enc, [], [], v, he, ⟨rfl, rfl⟩, ⟨rfl, fun _ h => by simp at h, s1.xlt, fun i b g h => by simp at h, fun i j b b' g _ h => by simp at h, fun i b g h => by simp at h⟩, ⟨?_, fun b g hb => ?_, fun g hg => by simp [alive] at hg⟩, ?_⟩
  · exact s2.keep
  · have := hS.len; simp at this; subst this; simp at hb
  · simp only [alive, List.append_nil]
    refine hF.frz (fun us hu => ?_) s3
    exact fzL_rep s1 hX (owL_fz e1) (fun b hb g hg hx => by
      obtain ⟨k, hk, hm⟩ := owL_mut e1 b hb
      exact s1.out b k g hk (known_of_mut hm) hg hx) hu
/-- the end of a function whose result is an owned tree -/
theorem ret_ownT {P : Program} {rs : List ResultVar} {s : ASt} {p : Nat} {pre T : List Blk} {cs enc : List C} {ids : List Nat} {F : List C → AV} (hF : WF F) (O : OwnT p T cs enc ids) (hs : s.h = pre ++ T) (hp : pre.length = p) (h : aresult P s rs = some (F cs)) : ARet P rs 0 (OwnK enc F) s := by
  obtain ⟨d, hd⟩ := O.own
  exact ret_ownK (d := d) h (by rw [hs]; exact hd pre hp) O.nodup (fun _ => hF.pr)
end Go.Proofs.Sh
/- Steps of terms with casts. No program, no world. -/
namespace Go.Proofs.Grad
/-- v in place of x -/
def E.subst : E → UInt8 → E → E
  | .var y, x, v => match y == x with | true => v | false => .var y
  | .lam y t a, x, v => match y == x with | true => .lam y t a | false => .lam y t (a.subst x v)
  | .num n, x, v => .num n
  | .tru, x, v => .tru
  | .fls, x, v => .fls
  | .app a b, x, v => .app (a.subst x v) (b.subst x v)
  | .add a b, x, v => .add (a.subst x v) (b.subst x v)
  | .less a b, x, v => .less (a.subst x v) (b.subst x v)
  | .ite a b c, x, v => .ite (a.subst x v) (b.subst x v) (c.subst x v)
  | .pair a b, x, v => .pair (a.subst x v) (b.subst x v)
  | .fst a, x, v => .fst (a.subst x v)
  | .snd a, x, v => .snd (a.subst x v)
  | .asc t a, x, v => .asc t (a.subst x v)
  | .cast s t l a, x, v => .cast s t l (a.subst x v)
def T.isFn : T → Bool | .fn _ _ => true | _ => false
def T.isPr : T → Bool | .pr _ _ => true | _ => false
/-- a ground type -/
def T.isG : T → Bool | .any => false | .fn .any .any => true | .fn _ _ => false | .pr .any .any => true | .pr _ _ => false | _ => true
def proxyT (s t : T) : Bool := (s.isFn && t.isFn) || (s.isPr && t.isPr)
def injT (s t : T) : Bool := (t.ty.kind == 1) && s.isG
def E.val : E → Bool
  | .num _ | .tru | .fls | .lam _ _ _ => true
  | .pair a b => a.val && b.val
  | .cast s t _ a => (proxyT s t || injT s t) && a.val
  | _ => false
/-- what a step makes -/
inductive SR where
  | took (e : E) | blame (l : Int) | stuck
def SR.code : SR → Int | .took _ => 1 | .blame _ => 2 | .stuck => 3
def SR.lab : SR → Int | .blame l => l | _ => 0
def SR.map (f : E → E) : SR → SR | .took e => .took (f e) | .blame l => .blame l | .stuck => .stuck
def ruleApp : E → E → SR
  | .lam x _ b, v => .took (b.subst x v)
  | .cast (.fn s1 s2) (.fn t1 t2) l f, v => .took (.cast s2 t2 l (.app f (.cast t1 s1 (-l) v)))
  | _, _ => .stuck
def ruleAdd : E → E → SR
  | .num n, .num m => .took (.num ((n + m).tmod 1000))
  | _, _ => .stuck
def ruleLess : E → E → SR
  | .num n, .num m => match decide (n < m) with | true => .took .tru | false => .took .fls
  | _, _ => .stuck
def ruleIte : E → E → E → SR
  | .tru, b, _ => .took b
  | .fls, _, c => .took c
  | _, _, _ => .stuck
def ruleFst : E → SR
  | .pair a _ => .took a
  | .cast (.pr s1 _) (.pr t1 _) l v => .took (.cast s1 t1 l (.fst v))
  | _ => .stuck
def ruleSnd : E → SR
  | .pair _ b => .took b
  | .cast (.pr _ s2) (.pr _ t2) l v => .took (.cast s2 t2 l (.snd v))
  | _ => .stuck
/-- the type g, of which there is an injection below, and the type t: the same, or not -/
def ruleOut (t : T) (l : Int) : E → SR
  | .cast s' t' _ w => match injT s' t' with | true => (match s'.ty.kind == t.ty.kind with | true => .took w | false => .blame l) | false => .stuck
  | _ => .stuck
def ruleCast (s t : T) (l : Int) (v : E) : SR :=
  match s.ty.kind == t.ty.kind with
  | true => .took v
  | false => match t.ty.kind == 1 with
    | true => .took (.cast s.ground .any l (.cast s s.ground l v))
    | false => match t.isG with
      | false => .took (.cast t.ground t l (.cast s t.ground l v))
      | true => ruleOut t l v
/-- a step of a term with casts that is no value -/
def E.step : E → SR
  | .app a b => match a.val with | false => a.step.map (.app · b) | true => (match b.val with | false => b.step.map (.app a ·) | true => ruleApp a b)
  | .add a b => match a.val with | false => a.step.map (.add · b) | true => (match b.val with | false => b.step.map (.add a ·) | true => ruleAdd a b)
  | .less a b => match a.val with | false => a.step.map (.less · b) | true => (match b.val with | false => b.step.map (.less a ·) | true => ruleLess a b)
  | .ite a b c => match a.val with | false => a.step.map (.ite · b c) | true => ruleIte a b c
  | .pair a b => match a.val with | false => a.step.map (.pair · b) | true => (match b.val with | false => b.step.map (.pair a ·) | true => .stuck)
  | .fst a => match a.val with | false => a.step.map .fst | true => ruleFst a
  | .snd a => match a.val with | false => a.step.map .snd | true => ruleSnd a
  | .cast s t l a => match a.val with | false => a.step.map (.cast s t l) | true => ruleCast s t l a
  | _ => .stuck
/-! what steps keep -/
theorem E.subst_wf {x : UInt8} {v : E} (hv : v.wf = true) : ∀ e : E, e.wf = true → (e.subst x v).wf = true := by
  intro e
  induction e with
  | var y => intro h; simp only [E.subst]; split <;> assumption
  | lam y t a ih => intro h; simp only [E.subst]; split <;> simp_all [E.wf]
  | _ => intro h; simp_all [E.subst, E.wf]
theorem E.subst_noA {x : UInt8} {v : E} (hv : v.noA = true) : ∀ e : E, e.noA = true → (e.subst x v).noA = true := by
  intro e
  induction e with
  | var y => intro h; simp only [E.subst]; split <;> assumption
  | lam y t a ih => intro h; simp only [E.subst]; split <;> simp_all [E.noA]
  | _ => intro h; simp_all [E.subst, E.noA]
theorem T.cons_any' (a : T) : a.cons .any = true := by cases a <;> rfl
theorem T.cons_comm (a : T) : ∀ b : T, a.cons b = b.cons a := by
  induction a with
  | fn a1 a2 ih1 ih2 | pr a1 a2 ih1 ih2 => intro b; cases b <;> simp [T.cons, *]
  | _ => intro b; cases b <;> rfl
theorem lab_neg' {l : Int} (h : lab l = true) : lab (-l) = true := by
  simp [lab] at *; omega
theorem lab_bd2 {l : Int} (h : lab l = true) : -99 ≤ l ∧ l ≤ 99 := by simp [lab] at h; omega
theorem T.ground_cons (t : T) : t.cons t.ground = true := by cases t <;> simp [T.ground, T.cons, T.cons_any']
theorem T.ground_depth (t : T) : t.ground.depth ≤ t.depth := by
  have hp : ∀ x : T, 1 ≤ x.depth := fun x => by cases x <;> simp [T.depth]
  cases t with
  | fn a b | pr a b => have := hp a; simp only [T.ground, T.depth]; omega
  | _ => exact Nat.le_refl _
def SR.ok : SR → Bool | .took e => e.wf && e.noA | .blame l => Grad.lab l | .stuck => true
theorem SR.map_ok {r : SR} {f : E → E} (h : r.ok = true) (hf : ∀ e, e.wf = true → e.noA = true → (f e).wf = true ∧ (f e).noA = true) : (r.map f).ok = true := by
  cases r with
  | took e => simp only [SR.ok, Bool.and_eq_true, SR.map] at h ⊢; exact hf e h.1 h.2
  | _ => exact h
theorem ruleApp_ok {a b : E} (ha : a.wf = true) (na : a.noA = true) (hb : b.wf = true) (nb : b.noA = true) : (ruleApp a b).ok = true := by
  cases a with
  | lam x t c =>
    simp only [E.wf, E.noA, Bool.and_eq_true] at ha na
    simp only [ruleApp, SR.ok, Bool.and_eq_true]
    exact ⟨E.subst_wf hb _ ha.2.2, E.subst_noA nb _ na⟩
  | cast s t l f =>
    cases s <;> cases t <;> try rfl
    rename_i s1 s2 t1 t2
    simp only [E.wf, E.noA, T.cons, Bool.and_eq_true, decide_eq_true_eq] at ha na
    obtain ⟨⟨d1, d2⟩, ⟨c1, c2⟩, hl, hf⟩ := ha
    simp only [T.depth] at d1 d2
    simp only [ruleApp, SR.ok, E.wf, E.noA, Bool.and_eq_true, decide_eq_true_eq]
    exact ⟨⟨⟨by omega, by omega⟩, c2, hl, hf, ⟨by omega, by omega⟩, by rw [T.cons_comm]; exact c1, lab_neg' hl, hb⟩, na, nb⟩
  | _ => rfl
theorem ruleAdd_ok {a b : E} (ha : a.wf = true) (hb : b.wf = true) : (ruleAdd a b).ok = true := by
  cases a with
  | num n =>
    cases b with
    | num m =>
      simp only [E.wf, Bool.and_eq_true, decide_eq_true_eq] at ha hb
      simp only [ruleAdd, SR.ok, E.wf, E.noA, Bool.and_eq_true, decide_eq_true_eq]
      have := Int.tmod_lt_of_pos (n + m) (b := 1000) (by omega)
      have := Int.tmod_nonneg 1000 (a := n + m) (by omega)
      exact ⟨⟨by omega, by omega⟩, trivial⟩
    | _ => rfl
  | _ => rfl
theorem ruleLess_ok (a b : E) : (ruleLess a b).ok = true := by
  cases a with
  | num n =>
    cases b with
    | num m => simp only [ruleLess]; split <;> rfl
    | _ => rfl
  | _ => rfl
theorem ruleIte_ok {a b c : E} (hb : b.wf = true) (nb : b.noA = true) (hc : c.wf = true) (nc : c.noA = true) : (ruleIte a b c).ok = true := by
  cases a <;> simp [ruleIte, SR.ok, *]
theorem ruleFst_ok {a : E} (ha : a.wf = true) (na : a.noA = true) : (ruleFst a).ok = true := by
  cases a with
  | pair x y => simp only [E.wf, E.noA, Bool.and_eq_true] at ha na; simp [ruleFst, SR.ok, *]
  | cast s t l f =>
    cases s <;> cases t <;> try rfl
    rename_i s1 s2 t1 t2
    simp only [E.wf, E.noA, T.cons, Bool.and_eq_true, decide_eq_true_eq] at ha na
    obtain ⟨⟨d1, d2⟩, ⟨c1, c2⟩, hl, hf⟩ := ha
    simp only [T.depth] at d1 d2
    simp only [ruleFst, SR.ok, E.wf, E.noA, Bool.and_eq_true, decide_eq_true_eq]
    exact ⟨⟨⟨by omega, by omega⟩, c1, hl, hf⟩, na⟩
  | _ => rfl
theorem ruleSnd_ok {a : E} (ha : a.wf = true) (na : a.noA = true) : (ruleSnd a).ok = true := by
  cases a with
  | pair x y => simp only [E.wf, E.noA, Bool.and_eq_true] at ha na; simp [ruleSnd, SR.ok, *]
  | cast s t l f =>
    cases s <;> cases t <;> try rfl
    rename_i s1 s2 t1 t2
    simp only [E.wf, E.noA, T.cons, Bool.and_eq_true, decide_eq_true_eq] at ha na
    obtain ⟨⟨d1, d2⟩, ⟨c1, c2⟩, hl, hf⟩ := ha
    simp only [T.depth] at d1 d2
    simp only [ruleSnd, SR.ok, E.wf, E.noA, Bool.and_eq_true, decide_eq_true_eq]
    exact ⟨⟨⟨by omega, by omega⟩, c2, hl, hf⟩, na⟩
  | _ => rfl
theorem cons_kind {s t : T} (h1 : (s.ty.kind == t.ty.kind) = false) (h2 : (t.ty.kind == 1) = false) (hc : s.cons t = true) : s = .any := by
  cases s <;> cases t <;> simp_all [T.ty, Ty.kind, T.cons]
theorem kind_one {t : T} (h : (t.ty.kind == 1) = true) : t = .any := by
  cases t <;> simp_all [T.ty, Ty.kind]
theorem ruleCast_ok {s t : T} {l : Int} {a : E} (h1 : (E.cast s t l a).wf = true) (h2 : a.noA = true) : (ruleCast s t l a).ok = true := by
  simp only [E.wf, Bool.and_eq_true, decide_eq_true_eq] at h1
  obtain ⟨⟨ds, dt⟩, hc, hl, ha⟩ := h1
  unfold ruleCast
  cases e1 : (s.ty.kind == t.ty.kind)
  · cases e2 : (t.ty.kind == 1)
    · have hs := cons_kind e1 e2 hc
      subst hs
      cases e3 : t.isG
      · have hg := T.ground_cons t
        have hd := T.ground_depth t
        simp only [SR.ok, E.wf, E.noA, Bool.and_eq_true, decide_eq_true_eq]
        exact ⟨⟨⟨by omega, by omega⟩, by rw [T.cons_comm]; exact hg, hl, ⟨by omega, by omega⟩, by rw [T.cons_comm]; exact T.cons_any' _, hl, ha⟩, h2⟩
      · simp only []
        unfold ruleOut
        cases a with
        | cast s' t' l' w =>
          simp only [E.wf, E.noA, Bool.and_eq_true, decide_eq_true_eq] at ha h2
          simp only []
          cases injT s' t'
          · rfl
          · simp only []
            cases (s'.ty.kind == t.ty.kind)
            · exact hl
            · simp only [SR.ok, Bool.and_eq_true]; exact ⟨ha.2.2.2, h2⟩
        | _ => rfl
    · have hg := T.ground_cons s
      have hd := T.ground_depth s
      simp only [SR.ok, E.wf, E.noA, Bool.and_eq_true, decide_eq_true_eq]
      exact ⟨⟨⟨by omega, by simp [T.depth]⟩, T.cons_any' _, hl, ⟨by omega, by omega⟩, hg, hl, ha⟩, h2⟩
  · simp only [SR.ok, Bool.and_eq_true]; exact ⟨ha, h2⟩
theorem E.step_ok (e : E) : e.wf = true → e.noA = true → e.step.ok = true := by
  induction e with
  | app a b iha ihb =>
    intro h1 h2
    simp only [E.wf, E.noA, Bool.and_eq_true] at h1 h2
    simp only [E.step]
    split
    · exact SR.map_ok (iha h1.1 h2.1) fun e a1 a2 => by simp [E.wf, E.noA, *]
    · split
      · exact SR.map_ok (ihb h1.2 h2.2) fun e a1 a2 => by simp [E.wf, E.noA, *]
      · exact ruleApp_ok h1.1 h2.1 h1.2 h2.2
  | add a b iha ihb =>
    intro h1 h2
    simp only [E.wf, E.noA, Bool.and_eq_true] at h1 h2
    simp only [E.step]
    split
    · exact SR.map_ok (iha h1.1 h2.1) fun e a1 a2 => by simp [E.wf, E.noA, *]
    · split
      · exact SR.map_ok (ihb h1.2 h2.2) fun e a1 a2 => by simp [E.wf, E.noA, *]
      · exact ruleAdd_ok h1.1 h1.2
  | less a b iha ihb =>
    intro h1 h2
    simp only [E.wf, E.noA, Bool.and_eq_true] at h1 h2
    simp only [E.step]
    split
    · exact SR.map_ok (iha h1.1 h2.1) fun e a1 a2 => by simp [E.wf, E.noA, *]
    · split
      · exact SR.map_ok (ihb h1.2 h2.2) fun e a1 a2 => by simp [E.wf, E.noA, *]
      · exact ruleLess_ok _ _
  | pair a b iha ihb =>
    intro h1 h2
    simp only [E.wf, E.noA, Bool.and_eq_true] at h1 h2
    simp only [E.step]
    split
    · exact SR.map_ok (iha h1.1 h2.1) fun e a1 a2 => by simp [E.wf, E.noA, *]
    · split
      · exact SR.map_ok (ihb h1.2 h2.2) fun e a1 a2 => by simp [E.wf, E.noA, *]
      · rfl
  | ite a b c iha ihb ihc =>
    intro h1 h2
    simp only [E.wf, E.noA, Bool.and_eq_true] at h1 h2
    simp only [E.step]
    split
    · exact SR.map_ok (iha h1.1 h2.1) fun e a1 a2 => by simp [E.wf, E.noA, *]
    · exact ruleIte_ok h1.2.1 h2.2.1 h1.2.2 h2.2.2
  | fst a ih =>
    intro h1 h2
    simp only [E.wf, E.noA] at h1 h2
    simp only [E.step]
    split
    · exact SR.map_ok (ih h1 h2) fun e a1 a2 => by simp [E.wf, E.noA, *]
    · exact ruleFst_ok h1 h2
  | snd a ih =>
    intro h1 h2
    simp only [E.wf, E.noA] at h1 h2
    simp only [E.step]
    split
    · exact SR.map_ok (ih h1 h2) fun e a1 a2 => by simp [E.wf, E.noA, *]
    · exact ruleSnd_ok h1 h2
  | cast s t l a ih =>
    intro h1 h2
    have h1' := h1
    simp only [E.wf, E.noA, Bool.and_eq_true, decide_eq_true_eq] at h1 h2
    simp only [E.step]
    split
    · exact SR.map_ok (ih h1.2.2.2 h2) fun e a1 a2 => by simp [E.wf, E.noA, *]
    · exact ruleCast_ok h1' h2
  | _ => intro _ _; rfl
/-! the rules, as the program has them -/
def E.ruleI : E → Option E
  | .app (.lam x _ b) v => some (b.subst x v)
  | .add (.num n) (.num m) => some (.num ((n + m).tmod 1000))
  | .less (.num n) (.num m) => some (match decide (n < m) with | true => .tru | false => .fls)
  | .ite .tru b _ => some b
  | .ite .fls _ c => some c
  | .fst (.pair a _) => some a
  | .snd (.pair _ b) => some b
  | _ => none
def E.castR : E → SR
  | .app (.cast (.fn s1 s2) (.fn t1 t2) l f) v => .took (.cast s2 t2 l (.app f (.cast t1 s1 (-l) v)))
  | .fst (.cast (.pr s1 _) (.pr t1 _) l v) => .took (.cast s1 t1 l (.fst v))
  | .snd (.cast (.pr _ s2) (.pr _ t2) l v) => .took (.cast s2 t2 l (.snd v))
  | .cast s t l v => ruleCast s t l v
  | _ => .stuck
def E.red (e : E) : SR := match e.ruleI with | some x => .took x | none => e.castR
theorem red_app (a b : E) : (E.app a b).red = ruleApp a b := by
  cases a with
  | cast s t l f => cases s <;> cases t <;> rfl
  | _ => rfl
theorem red_add (a b : E) : (E.add a b).red = ruleAdd a b := by
  cases a <;> cases b <;> rfl
theorem red_less (a b : E) : (E.less a b).red = ruleLess a b := by
  cases a <;> cases b <;> first | rfl | (simp only [E.red, E.ruleI, ruleLess]; split <;> rfl)
theorem red_ite (a b c : E) : (E.ite a b c).red = ruleIte a b c := by cases a <;> rfl
theorem red_fst (a : E) : (E.fst a).red = ruleFst a := by
  cases a with
  | cast s t l f => cases s <;> cases t <;> rfl
  | _ => rfl
theorem red_snd (a : E) : (E.snd a).red = ruleSnd a := by
  cases a with
  | cast s t l f => cases s <;> cases t <;> rfl
  | _ => rfl
theorem red_cast (s t : T) (l : Int) (a : E) : (E.cast s t l a).red = ruleCast s t l a := rfl
/-- the zero term -/
def tm0 : Tm := .mk 0 ByteArray.empty 0 noTy noTy 0 []
def SR.tm : SR → Tm | .took e => e.tm | _ => tm0
end Go.Proofs.Grad
/- Owned results: none at all. -/
namespace Go.Proofs.Sh
open Go.RowKit Go.Proofs.Grad
theorem tm0_ow (h : List Blk) (d : Nat) : fzL (ow h d) (teC tm0) = some (teC tm0, []) := by
  simp only [tm0, noTy, teC, tyR, teR, Ty.kind, Ty.kids, fzL, ow_int, ow_str]
  rw [ow_leaf (by simp)]
  rfl
theorem own_none {P : Program} {f : FuncId} {args : List AV} {F : List C → AV} (h : AFn P f args (F (teC tm0))) : ACl P f args [] (OwnK (teC tm0) F) :=
  h.cl.mono fun r H' ⟨e1, e2⟩ => by subst e1 e2; exact ⟨teC tm0, 0, [], rfl, tm0_ow _ _, List.nodup_nil, by simp⟩
theorem tm0_size : tm0.size < 100 := by simp [tm0, noTy, Tm.size, Ty.size, Ty.sizes, Tm.sizes]
end Go.Proofs.Sh
/- Terms simplified, owned. On shadows. -/
namespace Go.Proofs.Grad
/-- a change of valid nodes, as one of trees -/
noncomputable def E.raw (φ : E → E) (t : Tm) : Tm := by
  classical
  exact if h : ∃ e : E, e.tm = t then (φ (Classical.choose h)).tm else t
theorem E.raw_tm (φ : E → E) (e : E) : E.raw φ e.tm = (φ e).tm := by
  have h : ∃ x : E, x.tm = e.tm := ⟨e, rfl⟩
  unfold E.raw
  rw [dif_pos h, E.tm_inj _ _ (Classical.choose_spec h)]
theorem E.raw_of (φ : E → E) {t : Tm} {e : E} (h : t = e.tm) : E.raw φ t = (φ e).tm := by rw [h, E.raw_tm]
theorem E.mapT_tm (φ : E → E) (e : E) : e.tm.mapT (E.raw φ) = (e.mapE φ).tm := by
  induction e with
  | var x => exact E.raw_of φ (e := .var x) rfl
  | num x => exact E.raw_of φ (e := .num x) rfl
  | tru => exact E.raw_of φ (e := .tru) rfl
  | fls => exact E.raw_of φ (e := .fls) rfl
  | lam x t a ih => exact E.raw_of φ (e := .lam x t (a.mapE φ)) (by simp only [E.tm, nd, Tm.mapTs, ih])
  | fst a ih => exact E.raw_of φ (e := .fst (a.mapE φ)) (by simp only [E.tm, nd, Tm.mapTs, ih])
  | snd a ih => exact E.raw_of φ (e := .snd (a.mapE φ)) (by simp only [E.tm, nd, Tm.mapTs, ih])
  | asc t a ih => exact E.raw_of φ (e := .asc t (a.mapE φ)) (by simp only [E.tm, nd, Tm.mapTs, ih])
  | cast s t l a ih => exact E.raw_of φ (e := .cast s t l (a.mapE φ)) (by simp only [E.tm, nd, Tm.mapTs, ih])
  | app a b iha ihb => exact E.raw_of φ (e := .app (a.mapE φ) (b.mapE φ)) (by simp only [E.tm, nd, Tm.mapTs, iha, ihb])
  | add a b iha ihb => exact E.raw_of φ (e := .add (a.mapE φ) (b.mapE φ)) (by simp only [E.tm, nd, Tm.mapTs, iha, ihb])
  | less a b iha ihb => exact E.raw_of φ (e := .less (a.mapE φ) (b.mapE φ)) (by simp only [E.tm, nd, Tm.mapTs, iha, ihb])
  | pair a b iha ihb => exact E.raw_of φ (e := .pair (a.mapE φ) (b.mapE φ)) (by simp only [E.tm, nd, Tm.mapTs, iha, ihb])
  | ite a b c iha ihb ihc => exact E.raw_of φ (e := .ite (a.mapE φ) (b.mapE φ) (c.mapE φ)) (by simp only [E.tm, nd, Tm.mapTs, iha, ihb, ihc])
/-- valid terms, as trees -/
def Tm.isE (t : Tm) : Prop := ∃ e : E, e.tm = t ∧ e.wf = true
theorem Tm.isE_kid (t : Tm) (k : Nat) (h : t.isE) (hk : k < t.kids.length) : (Sh.teKid t.kids k).isE := by
  obtain ⟨e, rfl, hw⟩ := h
  have key : ∀ x ∈ e.kids, x.wf = true := by
    intro x hx
    cases e <;> simp only [E.kids, List.mem_cons, List.not_mem_nil, or_false] at hx <;> simp only [E.wf, Bool.and_eq_true] at hw <;> (try (rcases hx with rfl | rfl | rfl)) <;> (try (rcases hx with rfl | rfl)) <;> (try subst hx) <;> simp_all
  have hkids : e.tm.kids = e.kids.map E.tm := by cases e <;> rfl
  rw [hkids] at hk ⊢
  rw [Sh.teKid_eq hk]
  rw [List.length_map] at hk
  exact ⟨e.kids[k], by simp, key _ (List.getElem_mem hk)⟩
theorem Tm.isE_node {φ : E → E} (hφ : ∀ x : E, x.wf = true → (φ x).wf = true) (t : Tm) (h : t.isE) : (t.kidsOf (t.kids.map (Tm.mapT (E.raw φ)))).isE := by
  obtain ⟨e, rfl, hw⟩ := h
  have m := fun x : E => E.mapT_tm φ x
  have w := fun x : E => fun hx => E.mapE_wf hφ x hx
  cases e with
  | var x => exact ⟨.var x, rfl, hw⟩
  | num x => exact ⟨.num x, rfl, hw⟩
  | tru => exact ⟨.tru, rfl, hw⟩
  | fls => exact ⟨.fls, rfl, hw⟩
  | lam x t a => simp only [E.wf, Bool.and_eq_true] at hw; exact ⟨.lam x t (a.mapE φ), by simp [E.tm, Tm.kidsOf, Tm.kind, Tm.name, Tm.num, Tm.type, Tm.frm, Tm.label, Tm.kids, m], by simp only [E.wf, Bool.and_eq_true]; exact ⟨hw.1, hw.2.1, w a hw.2.2⟩⟩
  | asc t a => simp only [E.wf, Bool.and_eq_true] at hw; exact ⟨.asc t (a.mapE φ), by simp [E.tm, Tm.kidsOf, Tm.kind, Tm.name, Tm.num, Tm.type, Tm.frm, Tm.label, Tm.kids, m], by simp only [E.wf, Bool.and_eq_true]; exact ⟨hw.1, w a hw.2⟩⟩
  | cast s t l a => simp only [E.wf, Bool.and_eq_true] at hw; exact ⟨.cast s t l (a.mapE φ), by simp [E.tm, Tm.kidsOf, Tm.kind, Tm.name, Tm.num, Tm.type, Tm.frm, Tm.label, Tm.kids, m], by simp only [E.wf, Bool.and_eq_true]; exact ⟨hw.1, hw.2.1, hw.2.2.1, w a hw.2.2.2⟩⟩
  | fst a => exact ⟨.fst (a.mapE φ), by simp [E.tm, nd, Tm.kidsOf, Tm.kind, Tm.name, Tm.num, Tm.type, Tm.frm, Tm.label, Tm.kids, m], w a hw⟩
  | snd a => exact ⟨.snd (a.mapE φ), by simp [E.tm, nd, Tm.kidsOf, Tm.kind, Tm.name, Tm.num, Tm.type, Tm.frm, Tm.label, Tm.kids, m], w a hw⟩
  | app a b => simp only [E.wf, Bool.and_eq_true] at hw; exact ⟨.app (a.mapE φ) (b.mapE φ), by simp [E.tm, nd, Tm.kidsOf, Tm.kind, Tm.name, Tm.num, Tm.type, Tm.frm, Tm.label, Tm.kids, m], by simp only [E.wf, Bool.and_eq_true]; exact ⟨w a hw.1, w b hw.2⟩⟩
  | add a b => simp only [E.wf, Bool.and_eq_true] at hw; exact ⟨.add (a.mapE φ) (b.mapE φ), by simp [E.tm, nd, Tm.kidsOf, Tm.kind, Tm.name, Tm.num, Tm.type, Tm.frm, Tm.label, Tm.kids, m], by simp only [E.wf, Bool.and_eq_true]; exact ⟨w a hw.1, w b hw.2⟩⟩
  | less a b => simp only [E.wf, Bool.and_eq_true] at hw; exact ⟨.less (a.mapE φ) (b.mapE φ), by simp [E.tm, nd, Tm.kidsOf, Tm.kind, Tm.name, Tm.num, Tm.type, Tm.frm, Tm.label, Tm.kids, m], by simp only [E.wf, Bool.and_eq_true]; exact ⟨w a hw.1, w b hw.2⟩⟩
  | pair a b => simp only [E.wf, Bool.and_eq_true] at hw; exact ⟨.pair (a.mapE φ) (b.mapE φ), by simp [E.tm, nd, Tm.kidsOf, Tm.kind, Tm.name, Tm.num, Tm.type, Tm.frm, Tm.label, Tm.kids, m], by simp only [E.wf, Bool.and_eq_true]; exact ⟨w a hw.1, w b hw.2⟩⟩
  | ite a b c => simp only [E.wf, Bool.and_eq_true] at hw; exact ⟨.ite (a.mapE φ) (b.mapE φ) (c.mapE φ), by simp [E.tm, nd, Tm.kidsOf, Tm.kind, Tm.name, Tm.num, Tm.type, Tm.frm, Tm.label, Tm.kids, m], by simp only [E.wf, Bool.and_eq_true]; exact ⟨w a hw.1, w b hw.2.1, w c hw.2.2⟩⟩
end Go.Proofs.Grad
namespace Go.Proofs.Ytfgjiamolknicaa
open Go.RowKit Go.Proofs.Sh Go.Proofs.Grad
set_option maxRecDepth 100000
set_option maxHeartbeats 8000000
theorem iSimplifiedO (x : E) (hw : x.wf = true) (h : List Blk) (cs : List C) (d : Nat) (ids : List Nat) (e : fzL (ow h d) cs = some (teC x.tm, ids)) (hn : ids.Nodup) : ACl Try.prog 83 [.agg cs] h (Changed h ids (teC x.simp1.tm)) := by
  have hcs : cs.length = 9 := by rw [← fzL_len e, teC_length]
  have htk : cs.take 9 = cs := List.take_of_length_le (by omega)
  have stay : ∀ (X : List Blk), Changed h ids (teC x.tm) (.agg cs) (h ++ X) := fun X => ⟨cs, d, ids, rfl, owL_frame e (fun b hb => List.getElem?_append_left (owL_mut e b hb).lt), hn, fun b hb => .inl hb, by simp, fun b hb => List.getElem?_append_left hb⟩
  cases x with
  | cast s t l a =>
    simp only [E.wf, Bool.and_eq_true, decide_eq_true_eq] at hw
    have h1 := iSame 1000 (by omega) s.ty t.ty (T.ty_small hw.1.1)
    obtain ⟨c1, c2, c3, i1, i2, i3, rfl, rfl, o1, o2, o3⟩ := owL_te e
    obtain ⟨d', sz, b, ty, r, js, rfl, hb, hr, hrow, rfl⟩ := ow_kid1 o3
    have hr9 : r.length = 9 := by rw [← fzL_len hrow, teC_length]
    have hsz : sz = 9 := by rw [← hr, hr9]
    subst hsz
    have g1 := fun U => get_app hb U
    have g2 := fun U V => get_app (g1 U) V
    have g3 := fun U V W => get_app (g2 U V) W
    have fr : ∀ {d : Nat} {c c' : C} {is : List Nat} (X Y Z : List Blk), ow h d c = some (c', is) → ow (h ++ X ++ Y ++ Z) d c = some (c', is) := fun X Y Z e => ow_frame e (fun x hx => by
      have := (ow_mut e x hx).lt
      rw [List.append_assoc, List.append_assoc, List.getElem?_append_left this])
    have o1 : ow h d c1 = some (.sl (tyR t.ty.kids), i1) := o1
    have o2 : ow h d c2 = some (.sl (tyR s.ty.kids), i2) := o2
    rw [tyC_eq, tyC_eq] at h1
    obtain ⟨n1, n23, n123⟩ := List.nodup_append.1 hn
    obtain ⟨n2, n3, n23'⟩ := List.nodup_append.1 n23
    have njs : js.Nodup := (List.nodup_cons.1 n3).2
    obtain ⟨a1, a2, a3, j1, j2, j3, rfl, rfl, oa1, oa2, oa3⟩ := owL_te hrow
    have back : ∀ (X : List Blk), Changed h (i1 ++ (i2 ++ b :: (j1 ++ (j2 ++ j3)))) (teC a.tm) (.agg (teO a.tm a1 a2 a3)) (h ++ X) := fun X => ⟨_, d', _, rfl, owL_frame hrow (fun x hx => List.getElem?_append_left (owL_mut hrow x hx).lt), njs, fun x hx => .inl (by simp only [List.mem_append, List.mem_cons] at hx ⊢; exact .inr (.inr (.inr hx))), by simp, fun x hx => List.getElem?_append_left hx⟩
    simp only [teO] at g1 g2 g3 stay back ⊢
    simp only [E.tm, Tm.kind, Tm.name, Tm.num, Tm.type, Tm.frm, Tm.label] at stay ⊢
    cases e1 : s.ty.same t.ty
    · rw [e1] at h1
      cases a with
      | cast s' t' l' y =>
        simp only [E.wf, Bool.and_eq_true, decide_eq_true_eq] at hw
        have h2 := iSame 1000 (by omega) t.ty s'.ty (T.ty_small hw.1.2)
        rw [Ty.same_comm, tyC_eq, tyC_eq] at h2
        have oa2 : ow h d' a2 = some (.sl (tyR s'.ty.kids), j2) := oa2
        obtain ⟨d2, sz2, b2, ty2, r2, js2, rfl, hb2, hr2, hrow2, rfl⟩ := ow_kid1 oa3
        have hr29 : r2.length = 9 := by rw [← fzL_len hrow2, teC_length]
        have hsz2 : sz2 = 9 := by rw [← hr2, hr29]
        subst hsz2
        have htr2 : r2.take 9 = r2 := List.take_of_length_le (by omega)
        have k1 := fun U => get_app hb2 U
        have k2 := fun U V => get_app (k1 U) V
        have k3 := fun U V W => get_app (k2 U V) W
        have nj2 : js2.Nodup := by
          obtain ⟨_, m23, _⟩ := List.nodup_append.1 njs
          obtain ⟨_, m3, _⟩ := List.nodup_append.1 m23
          exact (List.nodup_cons.1 m3).2
        have deep : ∀ (X : List Blk), Changed h (i1 ++ (i2 ++ b :: (j1 ++ (j2 ++ b2 :: js2)))) (teC y.tm) (.agg r2) (h ++ X) := fun X => ⟨_, d2, _, rfl, owL_frame hrow2 (fun x hx => List.getElem?_append_left (owL_mut hrow2 x hx).lt), nj2, fun x hx => .inl (by simp [hx]), by simp, fun x hx => List.getElem?_append_left hx⟩
        have e2 : backB s t (.cast s' t' l' y) = (t'.ty.kind == 1 && (s.ty.kind == 1 && s'.ty.same t.ty)) := rfl
        simp only [E.simp1, e1, e2, E.tm, Tm.kind, Tm.name, Tm.num, Tm.type, Tm.frm, Tm.label] at g1 g2 g3 back ⊢
        cases e3 : (t'.ty.kind == 1) <;> cases e4 : (s.ty.kind == 1) <;> cases e5 : s'.ty.same t.ty
        all_goals
          rw [e5] at h2
          simp only [Bool.true_and, Bool.false_and, Bool.and_false, Bool.and_true, E.kid0, E.tm]
          refine acl_in Try.func83 rfl isfn_83 (Nat.le_of_ble_eq_true rfl) (fun R hR => ?_); rw [Try.results83] at hR; refine wg_run ?_; (simp only [Try.f83, go_sem])
          repeat' (first | (first | (simp only [go_sem, int_bne, e3, e4, g1, g2, g3, k1, k2, k3, hr9, hr29, htr2]) | (((first | refine sp1 ?_ ?_ | refine sp2 ?_ ?_ | refine sp3 ?_ ?_ | refine sp4 ?_ ?_ | refine sp5 ?_ ?_ | refine sp6 ?_ ?_ | refine sp7 ?_ ?_) <;> intro hb) <;> (simp only [go_sem, hb, int_bne, e3, e4, g1, g2, g3, k1, k2, k3, hr9, hr29, htr2])) | ((first | refine wm_done ?_ | refine wt_done ?_ | refine wg_run ?_ | refine fk ?_ ?_) <;> (simp only [go_sem, int_bne, e3, e4, g1, g2, g3, k1, k2, k3, hr9, hr29, htr2]))) | fail)
          refine wd_any (acalls_readT (.cons (.agg (owL_two (fr _ _ _ o2))) (.cons (.agg (owL_two (fr _ _ _ o1))) .nil)) h1) ?_
          rintro _ _ ⟨rfl, rfl⟩
          (simp only [go_sem])
          repeat' (first | (first | (simp only [go_sem, int_bne, e3, e4, g1, g2, g3, k1, k2, k3, hr9, hr29, htr2]) | (((first | refine sp1 ?_ ?_ | refine sp2 ?_ ?_ | refine sp3 ?_ ?_ | refine sp4 ?_ ?_ | refine sp5 ?_ ?_ | refine sp6 ?_ ?_ | refine sp7 ?_ ?_) <;> intro hb) <;> (simp only [go_sem, hb, int_bne, e3, e4, g1, g2, g3, k1, k2, k3, hr9, hr29, htr2])) | ((first | refine wm_done ?_ | refine wt_done ?_ | refine wg_run ?_ | refine fk ?_ ?_) <;> (simp only [go_sem, int_bne, e3, e4, g1, g2, g3, k1, k2, k3, hr9, hr29, htr2]))) | fail)
          (try (refine wd_any (acalls_readT (.cons (.agg (owL_two (fr _ _ _ o1))) (.cons (.agg (owL_two (fr _ _ _ oa2))) .nil)) h2) ?_
                rintro _ _ ⟨rfl, rfl⟩
                (simp only [go_sem])
                repeat' (first | (first | (simp only [go_sem, int_bne, e3, e4, g1, g2, g3, k1, k2, k3, hr9, hr29, htr2]) | (((first | refine sp1 ?_ ?_ | refine sp2 ?_ ?_ | refine sp3 ?_ ?_ | refine sp4 ?_ ?_ | refine sp5 ?_ ?_ | refine sp6 ?_ ?_ | refine sp7 ?_ ?_) <;> intro hb) <;> (simp only [go_sem, hb, int_bne, e3, e4, g1, g2, g3, k1, k2, k3, hr9, hr29, htr2])) | ((first | refine wm_done ?_ | refine wt_done ?_ | refine wg_run ?_ | refine fk ?_ ?_) <;> (simp only [go_sem, int_bne, e3, e4, g1, g2, g3, k1, k2, k3, hr9, hr29, htr2]))) | fail)))
          first
            | exact hR _ (ret_all (by (simp only [go_sem]); first | done | rfl) (by simp only [List.append_assoc]; exact stay _))
            | exact hR _ (ret_all (by (simp only [go_sem, htr2, hr29]); first | done | rfl) (by simp only [List.append_assoc]; exact deep _))
      | _ =>
        simp only [E.simp1, e1, backB, E.tm, nd, Tm.kind, Tm.name, Tm.num, Tm.type, Tm.frm, Tm.label] at g1 g2 g3 back ⊢
        cases e4 : (s.ty.kind == 1)
        all_goals
          refine acl_in Try.func83 rfl isfn_83 (Nat.le_of_ble_eq_true rfl) (fun R hR => ?_); rw [Try.results83] at hR; refine wg_run ?_; (simp only [Try.f83, go_sem])
          repeat' (first | (first | (simp only [go_sem, int_bne, e4, g1, g2, g3]) | (((first | refine sp1 ?_ ?_ | refine sp2 ?_ ?_ | refine sp3 ?_ ?_ | refine sp4 ?_ ?_ | refine sp5 ?_ ?_ | refine sp6 ?_ ?_ | refine sp7 ?_ ?_) <;> intro hb) <;> (simp only [go_sem, hb, int_bne, e4, g1, g2, g3])) | ((first | refine wm_done ?_ | refine wt_done ?_ | refine wg_run ?_ | refine fk ?_ ?_) <;> (simp only [go_sem, int_bne, e4, g1, g2, g3]))) | fail)
          refine wd_any (acalls_readT (.cons (.agg (owL_two (fr _ _ _ o2))) (.cons (.agg (owL_two (fr _ _ _ o1))) .nil)) h1) ?_
          rintro _ _ ⟨rfl, rfl⟩
          (simp only [go_sem])
          repeat' (first | (first | (simp only [go_sem, int_bne, e4, g1, g2, g3]) | (((first | refine sp1 ?_ ?_ | refine sp2 ?_ ?_ | refine sp3 ?_ ?_ | refine sp4 ?_ ?_ | refine sp5 ?_ ?_ | refine sp6 ?_ ?_ | refine sp7 ?_ ?_) <;> intro hb) <;> (simp only [go_sem, hb, int_bne, e4, g1, g2, g3])) | ((first | refine wm_done ?_ | refine wt_done ?_ | refine wg_run ?_ | refine fk ?_ ?_) <;> (simp only [go_sem, int_bne, e4, g1, g2, g3]))) | fail)
          exact hR _ (ret_all (by (simp only [go_sem]); first | done | rfl) (by simp only [List.append_assoc]; exact stay _))
    · rw [e1] at h1
      simp only [E.simp1, e1]
      refine acl_in Try.func83 rfl isfn_83 (Nat.le_of_ble_eq_true rfl) (fun R hR => ?_); rw [Try.results83] at hR; refine wg_run ?_; (simp only [Try.f83, go_sem])
      repeat' (first | (first | (simp only [go_sem, int_bne, g1, g2, g3]) | (((first | refine sp1 ?_ ?_ | refine sp2 ?_ ?_ | refine sp3 ?_ ?_ | refine sp4 ?_ ?_ | refine sp5 ?_ ?_ | refine sp6 ?_ ?_ | refine sp7 ?_ ?_) <;> intro hb) <;> (simp only [go_sem, hb, int_bne, g1, g2, g3])) | ((first | refine wm_done ?_ | refine wt_done ?_ | refine wg_run ?_ | refine fk ?_ ?_) <;> (simp only [go_sem, int_bne, g1, g2, g3]))) | fail)
      refine wd_any (acalls_readT (.cons (.agg (owL_two (fr _ _ _ o2))) (.cons (.agg (owL_two (fr _ _ _ o1))) .nil)) h1) ?_
      rintro _ _ ⟨rfl, rfl⟩
      (simp only [go_sem])
      repeat' (first | (first | (simp only [go_sem, int_bne, g1, g2, g3]) | (((first | refine sp1 ?_ ?_ | refine sp2 ?_ ?_ | refine sp3 ?_ ?_ | refine sp4 ?_ ?_ | refine sp5 ?_ ?_ | refine sp6 ?_ ?_ | refine sp7 ?_ ?_) <;> intro hb) <;> (simp only [go_sem, hb, int_bne, g1, g2, g3])) | ((first | refine wm_done ?_ | refine wt_done ?_ | refine wg_run ?_ | refine fk ?_ ?_) <;> (simp only [go_sem, int_bne, g1, g2, g3]))) | fail)
      exact hR _ (ret_all (by (simp only [go_sem]); first | done | rfl) (by simp only [List.append_assoc]; exact back _))
  | _ =>
    simp only [E.tm, nd, E.simp1] at e stay ⊢
    obtain ⟨c1, c2, c3, i1, i2, i3, rfl, rfl, o1, o2, o3⟩ := owL_te e
    simp only [teO, Tm.kind, Tm.name, Tm.num, Tm.type, Tm.frm, Tm.label] at stay ⊢
    refine acl_in Try.func83 rfl isfn_83 (Nat.le_of_ble_eq_true rfl) (fun R hR => ?_); rw [Try.results83] at hR; refine wg_run ?_; (simp only [Try.f83, go_sem])
    repeat' (first | (first | (simp only [go_sem, int_bne]) | (((first | refine sp1 ?_ ?_ | refine sp2 ?_ ?_ | refine sp3 ?_ ?_ | refine sp4 ?_ ?_ | refine sp5 ?_ ?_ | refine sp6 ?_ ?_ | refine sp7 ?_ ?_) <;> intro hb) <;> (simp only [go_sem, hb, int_bne])) | ((first | refine wm_done ?_ | refine wt_done ?_ | refine wg_run ?_ | refine fk ?_ ?_) <;> (simp only [go_sem, int_bne]))) | fail)
    exact hR _ (ret_all (by (simp only [go_sem]); first | done | rfl) (by simp only [List.append_assoc]; exact stay _))
/-- what SimplifyCasts yields -/
noncomputable def simpX (t : Tm) : Tm := by
  classical
  exact if h : t.castV = true then ((Classical.choose (Tm.castV_E h)).simp).tm else tm0
theorem simpX_E {e : E} (h : e.okC = true) : simpX e.tm = e.simp.tm := by
  have h' : e.tm.castV = true := by rw [E.castV_tm]; exact h
  unfold simpX
  rw [dif_pos h', E.tm_inj _ _ (Classical.choose_spec (Tm.castV_E h')).1]
theorem simpX_bad {t : Tm} (h : t.castV = false) : simpX t = tm0 := by unfold simpX; rw [dif_neg (by simp [h])]
theorem simp_size (e : E) : e.simp.tm.size ≤ e.tm.size := by
  have hp : ∀ t : Ty, 1 ≤ t.size := fun t => by cases t; simp only [Ty.size]; omega
  have k0 : ∀ x : E, x.kid0.tm.size ≤ x.tm.size := fun x => by cases x <;> simp only [E.kid0, E.tm, nd, Tm.size, Tm.sizes] <;> omega
  have s1 : ∀ x : E, x.simp1.tm.size ≤ x.tm.size := fun x => by
    cases x with
    | cast s t l a =>
      have := k0 a
      simp only [E.simp1]
      split
      · simp only [E.tm, Tm.size, Tm.sizes]; omega
      · split
        · simp only [E.tm, Tm.size, Tm.sizes]; omega
        · exact Nat.le_refl _
    | _ => exact Nat.le_refl _
  unfold E.simp
  induction e <;> simp only [E.mapE] <;> refine Nat.le_trans (s1 _) ?_ <;> simp only [E.tm, nd, Tm.size, Tm.sizes] at * <;> (try omega)
theorem simpX_size (t : Tm) (h : t.size < 100000000) : (simpX t).size < 100000000 := by
  cases hv : t.castV
  · rw [simpX_bad hv]; have := Sh.tm0_size; omega
  · obtain ⟨e, rfl, ho⟩ := Tm.castV_E hv
    rw [simpX_E ho]
    have := simp_size e; omega
theorem iSimplify (t : Tm) (ht : t.size < 100000000) : ACl Try.prog 26 [.agg (teC t)] [] (OwnK (teC (simpX t)) (boolF t.castV)) := by
  have hv := iCastV t
  cases h : t.castV
  · rw [h] at hv
    rw [simpX_bad h]
    refine own_none ?_
    simp only [boolF]
    simp only [tm0, noTy]
    refine fn_in ?_; refine acl_in Try.func26 rfl isfn_26 (Nat.le_of_ble_eq_true rfl) (fun R hR => ?_); rw [Try.results26] at hR; refine wg_run ?_; (simp only [Try.f26, go_sem])
    repeat' (first | (first | (((first | refine sp1 ?_ ?_ | refine sp2 ?_ ?_ | refine sp3 ?_ ?_ | refine sp4 ?_ ?_ | refine sp5 ?_ ?_ | refine sp6 ?_ ?_ | refine sp7 ?_ ?_) <;> intro hb) <;> (simp only [go_sem, hb])) | ((first | refine wm_done ?_ | refine wt_done ?_ | refine wg_run ?_ | refine fk ?_ ?_) <;> (simp only [go_sem]))) | (first | refine cd (hc := hv) (hK := ?_) | refine cm (hc := hv) (hK := ?_) | refine ct (hc := hv) (hK := ?_)); (simp only [go_sem]) | fail)
    (refine hR _ ?_; refine rat [] (hK := ⟨rfl, rfl⟩))
  · rw [h] at hv
    obtain ⟨e, rfl, ho⟩ := Tm.castV_E h
    have hw : e.wf = true := by simp only [E.okC, Bool.and_eq_true] at ho; exact ho.1
    rw [simpX_E ho]
    have hm := iMappedO 83 (E.raw E.simp1) Tm.isE Tm.isE (fun t k hj hk => Tm.isE_kid t k hj hk) (fun t hj => Tm.isE_node (fun x hx => E.simp1_wf x hx) t hj)
      (fun x h cs d ids hx e hn => by
        obtain ⟨y, rfl, hy⟩ := hx
        rw [E.raw_tm]
        exact ⟨_, acalls_full (iSimplifiedO y hy h cs d ids e hn)⟩) 1000000000 (by omega) e.tm (by omega) ⟨e, rfl, hw⟩
    rw [E.mapT_tm] at hm
    refine acl_in Try.func26 rfl isfn_26 (Nat.le_of_ble_eq_true rfl) (fun R hR => ?_); rw [Try.results26] at hR; refine wg_run ?_; (simp only [Try.f26, go_sem])
    repeat' (first | (first | (((first | refine sp1 ?_ ?_ | refine sp2 ?_ ?_ | refine sp3 ?_ ?_ | refine sp4 ?_ ?_ | refine sp5 ?_ ?_ | refine sp6 ?_ ?_ | refine sp7 ?_ ?_) <;> intro hb) <;> (simp only [go_sem, hb])) | ((first | refine wm_done ?_ | refine wt_done ?_ | refine wg_run ?_ | refine fk ?_ ?_) <;> (simp only [go_sem]))) | (first | refine cd (hc := hv) (hK := ?_) | refine cm (hc := hv) (hK := ?_) | refine ct (hc := hv) (hK := ?_)); (simp only [go_sem]) | fail)
    refine wd_any (acalls_ownT (p := 2) (pre := [_, _]) (T := []) rfl (.cons (.same (by (simp only [go_sem]); first | done | rfl)) (.cons .fn .nil)) hm WF.agg.flat WF.agg.ren) ?_
    rintro _ _ ⟨cs, T, ids, rfl, rfl, -, -, O, -⟩
    have hcs : cs.length = 9 := by rw [O.len, teC_length]
    have htk : cs.take 9 = cs := List.take_of_length_le (by omega)
    (simp only [go_sem, hcs])
    repeat' (first | (first | (simp only [go_sem, hcs, htk]) | (((first | refine sp1 ?_ ?_ | refine sp2 ?_ ?_ | refine sp3 ?_ ?_ | refine sp4 ?_ ?_ | refine sp5 ?_ ?_ | refine sp6 ?_ ?_ | refine sp7 ?_ ?_) <;> intro hb) <;> (simp only [go_sem, hb, hcs, htk])) | ((first | refine wm_done ?_ | refine wt_done ?_ | refine wg_run ?_ | refine fk ?_ ?_) <;> (simp only [go_sem, hcs, htk]))) | fail)
    exact hR _ (ret_ownT (pre := [_, _]) (cs := cs) (WF.bool true) O rfl rfl (by (simp only [go_sem, hcs, htk]); first | done | rfl))
theorem sSimplify (t : Tm) (ht : t.size < 100000000) : AFn Try.prog 24 [.agg (teC t)] (boolF t.castV (teC (simpX t))) := by
  have hv := sCastV t (by omega)
  cases h : t.castV
  · rw [h] at hv
    rw [simpX_bad h]
    simp only [boolF]
    simp only [tm0, noTy]
    refine fn_in ?_; refine acl_in Try.func24 rfl isfn_24 (Nat.le_of_ble_eq_true rfl) (fun R hR => ?_); rw [Try.results24] at hR; refine wg_run ?_; (simp only [Try.f24, go_sem])
    repeat' (first | (first | (((first | refine sp1 ?_ ?_ | refine sp2 ?_ ?_ | refine sp3 ?_ ?_ | refine sp4 ?_ ?_ | refine sp5 ?_ ?_ | refine sp6 ?_ ?_ | refine sp7 ?_ ?_) <;> intro hb) <;> (simp only [go_sem, hb])) | ((first | refine wm_done ?_ | refine wt_done ?_ | refine wg_run ?_ | refine fk ?_ ?_) <;> (simp only [go_sem]))) | (first | refine cd (hc := hv) (hK := ?_) | refine cm (hc := hv) (hK := ?_) | refine ct (hc := hv) (hK := ?_)); (simp only [go_sem]) | fail)
    (refine hR _ ?_; refine rat [] (hK := ⟨rfl, rfl⟩))
  · rw [h] at hv
    obtain ⟨e, rfl, ho⟩ := Tm.castV_E h
    have hw : e.wf = true := by simp only [E.okC, Bool.and_eq_true] at ho; exact ho.1
    rw [simpX_E ho]
    have hm := sSimple e hw (by omega)
    simp only [boolF]
    refine fn_in ?_; refine acl_in Try.func24 rfl isfn_24 (Nat.le_of_ble_eq_true rfl) (fun R hR => ?_); rw [Try.results24] at hR; refine wg_run ?_; (simp only [Try.f24, go_sem])
    repeat' (first | (first | (((first | refine sp1 ?_ ?_ | refine sp2 ?_ ?_ | refine sp3 ?_ ?_ | refine sp4 ?_ ?_ | refine sp5 ?_ ?_ | refine sp6 ?_ ?_ | refine sp7 ?_ ?_) <;> intro hb) <;> (simp only [go_sem, hb])) | ((first | refine wm_done ?_ | refine wt_done ?_ | refine wg_run ?_ | refine fk ?_ ?_) <;> (simp only [go_sem]))) | (first | refine cd (hc := hv) (hK := ?_) | refine cm (hc := hv) (hK := ?_) | refine ct (hc := hv) (hK := ?_)); (simp only [go_sem]) | (first | refine cd (hc := hm) (hK := ?_) | refine cm (hc := hm) (hK := ?_) | refine ct (hc := hm) (hK := ?_)); (simp only [go_sem]) | fail)
    (refine hR _ ?_; refine rat [] (hK := ⟨rfl, rfl⟩))
end Go.Proofs.Ytfgjiamolknicaa
/- Trees whose lengths fit into the machine's numbers; their weights. -/
namespace Go.Proofs.Grad
mutual
def Ty.fits : Ty → Prop | .mk _ l => l.length ≤ 9223372036854775807 ∧ Ty.fitss l
def Ty.fitss : List Ty → Prop | [] => True | t :: l => t.fits ∧ Ty.fitss l
end
mutual
def Tm.fits : Tm → Prop | .mk _ n _ t f _ l => n.size ≤ 9223372036854775807 ∧ t.fits ∧ f.fits ∧ l.length ≤ 9223372036854775807 ∧ Tm.fitss l
def Tm.fitss : List Tm → Prop | [] => True | t :: l => t.fits ∧ Tm.fitss l
end
mutual
def Co.fits : Co → Prop | .mk _ _ _ l => l.length ≤ 9223372036854775807 ∧ Co.fitss l
def Co.fitss : List Co → Prop | [] => True | t :: l => t.fits ∧ Co.fitss l
end
theorem Ty.fitss_mem {t : Ty} : ∀ {l : List Ty}, Ty.fitss l → t ∈ l → t.fits
  | x :: l, h, hm => by
    rcases List.mem_cons.1 hm with rfl | hm
    · exact h.1
    · exact Ty.fitss_mem h.2 hm
theorem Tm.fitss_mem {t : Tm} : ∀ {l : List Tm}, Tm.fitss l → t ∈ l → t.fits
  | x :: l, h, hm => by
    rcases List.mem_cons.1 hm with rfl | hm
    · exact h.1
    · exact Tm.fitss_mem h.2 hm
theorem Co.fitss_mem {t : Co} : ∀ {l : List Co}, Co.fitss l → t ∈ l → t.fits
  | x :: l, h, hm => by
    rcases List.mem_cons.1 hm with rfl | hm
    · exact h.1
    · exact Co.fitss_mem h.2 hm
theorem Ty.fitss_of : ∀ {l : List Ty}, (∀ i (h : i < l.length), l[i].fits) → Ty.fitss l
  | [], _ => trivial
  | x :: l, h => ⟨h 0 (by simp), Ty.fitss_of fun i hi => h (i + 1) (by simpa using hi)⟩
theorem Tm.fitss_of : ∀ {l : List Tm}, (∀ i (h : i < l.length), l[i].fits) → Tm.fitss l
  | [], _ => trivial
  | x :: l, h => ⟨h 0 (by simp), Tm.fitss_of fun i hi => h (i + 1) (by simpa using hi)⟩
theorem Co.fitss_of : ∀ {l : List Co}, (∀ i (h : i < l.length), l[i].fits) → Co.fitss l
  | [], _ => trivial
  | x :: l, h => ⟨h 0 (by simp), Co.fitss_of fun i hi => h (i + 1) (by simpa using hi)⟩
mutual
def Ty.wt : Ty → Nat | .mk _ l => Ty.wts l
def Ty.wts : List Ty → Nat | [] => 0 | t :: l => 1 + t.wt + Ty.wts l
end
mutual
def Tm.wt : Tm → Nat | .mk _ n _ t f _ l => n.size + (t.wt + (f.wt + Tm.wts l))
def Tm.wts : List Tm → Nat | [] => 0 | t :: l => 1 + t.wt + Tm.wts l
end
mutual
def Co.wt : Co → Nat | .mk _ _ _ l => Co.wts l
def Co.wts : List Co → Nat | [] => 0 | t :: l => 1 + t.wt + Co.wts l
end
mutual
theorem Ty.size_wt : ∀ t : Ty, t.size = 1 + t.wt
  | .mk _ l => by simp only [Ty.size, Ty.wt, Ty.sizes_wts l]
theorem Ty.sizes_wts : ∀ l : List Ty, Ty.sizes l = Ty.wts l
  | [] => rfl
  | t :: l => by simp only [Ty.sizes, Ty.wts, Ty.size_wt t, Ty.sizes_wts l]
end
mutual
theorem Co.size_wt : ∀ t : Co, t.size = 1 + t.wt
  | .mk _ _ _ l => by simp only [Co.size, Co.wt, Co.sizes_wts l]
theorem Co.sizes_wts : ∀ l : List Co, Co.sizes l = Co.wts l
  | [] => rfl
  | t :: l => by simp only [Co.sizes, Co.wts, Co.size_wt t, Co.sizes_wts l]
end
mutual
theorem Tm.size_wt : ∀ t : Tm, t.size ≤ 3 + 3 * t.wt
  | .mk _ _ _ t f _ l => by
    have := Tm.sizes_wts l
    have := Ty.size_wt t
    have := Ty.size_wt f
    simp only [Tm.size, Tm.wt]; omega
theorem Tm.sizes_wts : ∀ l : List Tm, Tm.sizes l ≤ 3 * Tm.wts l
  | [] => by simp [Tm.sizes, Tm.wts]
  | t :: l => by have := Tm.size_wt t; have := Tm.sizes_wts l; simp only [Tm.sizes, Tm.wts]; omega
end
end Go.Proofs.Grad
/- Types: the helpers of the exact laws, on shadows. -/
namespace Go.Proofs.Sh
open Go.RowKit Go.Proofs.Grad

/-! ### trees from memory: lengths fit -/
def szR (x : Nat) (left : Int) : Int := if (x : Int) ≤ left then left - x else -1
theorem szR_neg {x : Nat} {left : Int} (h : decide (szR x left < 0) = true) : szR x left = -1 := by
  have h := of_decide_eq_true h
  unfold szR at h ⊢
  split <;> rename_i h' <;> simp [h'] at h ⊢
  omega
theorem szR_nneg {x : Nat} {left : Int} (h : decide (szR x left < 0) = false) : (x : Int) ≤ left ∧ szR x left = left - x := by
  have h := of_decide_eq_false h
  unfold szR at h ⊢
  split <;> rename_i h' <;> simp [h'] at h ⊢
theorem tyall2_kid {f : Ty → Ty → Bool} {a b : List Ty} {i : Nat} (ha : i < a.length) (hb : i < b.length) : all2 f (a.drop i) (b.drop i) = (f (kid a i) (kid b i) && all2 f (a.drop (i + 1)) (b.drop (i + 1))) := by
  rw [drop_kid ha, drop_kid hb]; rfl
theorem tyall2_end {f : Ty → Ty → Bool} {a b : List Ty} {i : Nat} (ha : ¬ i < a.length) (hb : a.length = b.length) : all2 f (a.drop i) (b.drop i) = true := by
  rw [List.drop_eq_nil_of_le (by omega), List.drop_eq_nil_of_le (by omega)]; rfl

/-! ### sizes -/
theorem tyw_mem {l : List Ty} {k : Nat} (h : k < l.length) : Ty.wts (l.take (k + 1)) = Ty.wts (l.take k) + (1 + (kid l k).wt) := by
  rw [take_kid h]
  induction l.take k with
  | nil => simp [Ty.wts]
  | cons x m ih => simp only [List.cons_append, Ty.wts, ih]; omega
theorem tyw_rest (l : List Ty) : ∀ k, k ≤ l.length → Ty.wts (l.take k) + (l.length - k) ≤ Ty.wts l := by
  induction l with
  | nil => intro k _; simp [Ty.wts]
  | cons x l ih =>
    intro k hk
    cases k with
    | zero => have := ih 0 (by omega); simp [Ty.wts] at this ⊢; omega
    | succ k => have := ih k (by simpa using hk); simp [Ty.wts] at this ⊢; omega
theorem tyw_fit {l : List Ty} (h : Ty.fitss l) {k : Nat} (hk : k < l.length) : (kid l k).fits := by
  rw [kid_eq hk]; exact Ty.fitss_mem h (List.getElem_mem hk)

/-! ### lists filled from the front -/
def tyF (l : List Ty) (k : Nat) : List (List C) := tyR (l.take k) ++ List.replicate (l.length - k) [.sc (.int .i64 0), .sc (.slice none 0 0)]
theorem tyF_0 (l : List Ty) : tyF l 0 = List.replicate l.length [.sc (.int .i64 0), .sc (.slice none 0 0)] := by simp [tyF, tyR]
theorem tyF_get {l : List Ty} {k : Nat} (h : k < l.length) : (tyF l k)[k]? = some [.sc (.int .i64 0), .sc (.slice none 0 0)] := by
  have e : (tyR (l.take k)).length = k := by rw [tyR_length, List.length_take]; omega
  rw [tyF, List.getElem?_append_right (by omega), e, Nat.sub_self, List.getElem?_replicate, if_pos (by omega)]
theorem tyF_set {l : List Ty} {k : Nat} (h : k < l.length) : (tyF l k).set k (tyC (kid l k)) = tyF l (k + 1) := by
  have e : (tyR (l.take k)).length = k := by rw [tyR_length, List.length_take]; omega
  rw [tyF, tyF, List.set_append_right _ _ (by omega), e, Nat.sub_self, show l.length - k = (l.length - (k + 1)) + 1 by omega, List.replicate_succ, List.set_cons_zero, tyR_take h, List.append_assoc]
  rfl
theorem tyF_end (l : List Ty) : tyF l l.length = tyR l := by simp [tyF]
@[go_sem] theorem tyF_pr (h : List Blk) (ks : List Nat) (l : List Ty) (k : Nat) : prRs h ks (tyF l k) = some (tyF l k, []) := by
  have h1 : ∀ n, prRs h ks (List.replicate n [.sc (.int .i64 0), .sc (.slice none 0 0)]) = some (List.replicate n [.sc (.int .i64 0), .sc (.slice none 0 0)], []) := by
    intro n
    induction n with
    | zero => rfl
    | succ n ih => rw [List.replicate_succ, prRs, ih]; rfl
  have h2 : ∀ (m : List Ty) n, prRs h ks (tyR m ++ List.replicate n [.sc (.int .i64 0), .sc (.slice none 0 0)]) = some (tyR m ++ List.replicate n [.sc (.int .i64 0), .sc (.slice none 0 0)], []) := by
    intro m n
    induction m with
    | nil => exact h1 n
    | cons x m ih => rw [tyR, List.cons_append, prRs, ih, prL, if_pos (tyC_treeL x)]; rfl
  exact h2 _ _
@[go_sem] theorem tyF_rows (l : List Ty) (k : Nat) : rowsLen 2 (tyF l k) = true := by
  have : ∀ n, rowsLen 2 (List.replicate n [.sc (.int .i64 0), .sc (.slice none 0 0)]) = true := by
    intro n
    induction n with
    | zero => rfl
    | succ n ih => rw [List.replicate_succ, rowsLen_cons, ih]; rfl
  rw [tyF, rowsLen_append, tyR_len, this]; rfl
theorem tyF_len (l : List Ty) {k : Nat} (h : k ≤ l.length) : (tyF l k).length = l.length := by
  simp [tyF, tyR_length]; omega
end Go.Proofs.Sh
namespace Go.Proofs.Ytfgjiamolknicaa
open Go.RowKit Go.Proofs.Sh Go.Proofs.Grad
set_option maxRecDepth 100000
set_option maxHeartbeats 4000000

theorem szTyS (n : Nat) (ih : ∀ t : Ty, t.size < n → t.fits → ∀ left : Int, 0 ≤ left → left ≤ 1048576 → AFn Try.prog 75 [.agg (tyC t), .one (.sc (.int .i64 left))] (.one (.sc (.int .i64 (szR t.wt left)))))
    (l : List Ty) (hn : Ty.sizes l < n) (hlen : l.length ≤ 9223372036854775807) (hf : Ty.fitss l) (left : Int) (h0 : 0 ≤ left) (h1 : left ≤ 1048576) : AFn Try.prog 140 [.one (.sl (tyR l)), .one (.sc (.int .i64 left))] (.one (.sc (.int .i64 (szR (Ty.wts l) left)))) := by
  have hw0 : IntKind.i64.wrap (left - (l.length : Int)) = left - (l.length : Int) := IntWalk.i64_in _ (by omega)
  have hge := tyw_rest l 0 (Nat.zero_le _)
  simp only [List.take_zero, Ty.wts] at hge
  by_cases hfit : (l.length : Int) ≤ left
  · have d0 : decide (left - (l.length : Int) < 0) = false := by simp; omega
    refine fn_in ?_; refine acl_in Try.func140 rfl isfn_140 (Nat.le_of_ble_eq_true rfl) (fun R hR => ?_); rw [Try.results140] at hR; refine wg_run ?_; (simp only [Try.f140, go_sem, hw0, d0])
    refine wd_for [0, 1, 5] (fun k => [.one (.sl (tyR l)), .one (.sc (.int .i64 (left - (l.length : Int) - ((Ty.wts (l.take k) : Int) - (k : Int))))), .one (.sc (.int .i64 (k : Nat)))]) (fun _ => [])
      (fun k => k ≤ l.length ∧ (Ty.wts (l.take k) : Int) + (l.length : Int) ≤ left + (k : Int)) (fun k => l.length - k) 0 ⟨Nat.zero_le _, by simp [Ty.wts]; omega⟩ (hat [] (hI := ⟨by simp [Ty.wts], rfl⟩)) ?_
    rintro k ⟨hk, hs⟩ G hG
    refine wg_run ?_
    (simp only [go_sem])
    have hr := tyw_rest l k hk
    ((first | refine sp1 ?_ ?_ | refine sp2 ?_ ?_ | refine sp3 ?_ ?_ | refine sp4 ?_ ?_ | refine sp5 ?_ ?_ | refine sp6 ?_ ?_ | refine sp7 ?_ ?_) <;> intro hb) <;> (simp only [go_sem, hb])
    · have hk1 : k < l.length := by have := of_decide_eq_true hb; omega
      have hw1 := wrap_succ hk1 (by omega)
      have hm := tyw_mem hk1
      have hr1 := tyw_rest l (k + 1) hk1
      have hc := ih (kid l k) (by rw [kid_eq hk1]; have := Ty.sizes_mem (List.getElem_mem hk1); omega) (tyw_fit hf hk1) (left - (l.length : Int) - ((Ty.wts (l.take k) : Int) - (k : Int))) (by omega) (by omega)
      by_cases hfk : ((kid l k).wt : Int) ≤ left - (l.length : Int) - ((Ty.wts (l.take k) : Int) - (k : Int))
      · have he : szR (kid l k).wt (left - (l.length : Int) - ((Ty.wts (l.take k) : Int) - (k : Int))) = left - (l.length : Int) - ((Ty.wts (l.take (k + 1)) : Int) - ((k + 1 : Nat) : Int)) := by
          unfold szR; rw [if_pos hfk, hm]; omega
        rw [he] at hc
        have d1 : decide (left - (l.length : Int) - ((Ty.wts (l.take (k + 1)) : Int) - ((k + 1 : Nat) : Int)) < 0) = false := by simp; omega
        (first | refine cd (hc := hc) (hK := ?_) | refine cm (hc := hc) (hK := ?_) | refine ct (hc := hc) (hK := ?_)); (simp only [go_sem])
        repeat' (first | (simp only [go_sem, hw1, d1]) | (((first | refine sp1 ?_ ?_ | refine sp2 ?_ ?_ | refine sp3 ?_ ?_ | refine sp4 ?_ ?_ | refine sp5 ?_ ?_ | refine sp6 ?_ ?_ | refine sp7 ?_ ?_) <;> intro hb) <;> (simp only [go_sem, hb, hw1, d1])) | ((first | refine wm_done ?_ | refine wt_done ?_ | refine wg_run ?_ | refine fk ?_ ?_) <;> (simp only [go_sem, hw1, d1])))
        exact hG (k + 1) _ _ ⟨by omega, by omega⟩ (by omega) (hat [] (hI := ⟨rfl, rfl⟩))
      · have he : szR (kid l k).wt (left - (l.length : Int) - ((Ty.wts (l.take k) : Int) - (k : Int))) = -1 := by
          unfold szR; rw [if_neg hfk]
        rw [he] at hc
        have he2 : szR (Ty.wts l) left = -1 := by unfold szR; rw [if_neg (by omega)]
        (first | refine cd (hc := hc) (hK := ?_) | refine cm (hc := hc) (hK := ?_) | refine ct (hc := hc) (hK := ?_)); (simp only [go_sem])
        repeat' (first | (simp only [go_sem, hw1]) | (((first | refine sp1 ?_ ?_ | refine sp2 ?_ ?_ | refine sp3 ?_ ?_ | refine sp4 ?_ ?_ | refine sp5 ?_ ?_ | refine sp6 ?_ ?_ | refine sp7 ?_ ?_) <;> intro hb) <;> (simp only [go_sem, hb, hw1])) | ((first | refine wm_done ?_ | refine wt_done ?_ | refine wg_run ?_ | refine fk ?_ ?_) <;> (simp only [go_sem, hw1])))
        (refine hR _ (rat [] (hK := ⟨?_, rfl⟩)))
        rw [he2]
    · have hk1 : k = l.length := by have := of_decide_eq_false hb; omega
      subst hk1
      rw [List.take_length] at hs hr
      have he2 : szR (Ty.wts l) left = left - (l.length : Int) - ((Ty.wts l : Int) - (l.length : Int)) := by unfold szR; rw [if_pos (by omega)]; omega
      rw [List.take_length]
      (refine hR _ (rat [] (hK := ⟨?_, rfl⟩)))
      rw [he2]
  · have d0 : decide (left - (l.length : Int) < 0) = true := by simp; omega
    have he2 : szR (Ty.wts l) left = -1 := by unfold szR; rw [if_neg (by omega)]
    refine fn_in ?_; refine acl_in Try.func140 rfl isfn_140 (Nat.le_of_ble_eq_true rfl) (fun R hR => ?_); rw [Try.results140] at hR; refine wg_run ?_; (simp only [Try.f140, go_sem, hw0, d0])
    (refine hR _ (rat [] (hK := ⟨?_, rfl⟩)))
    rw [he2]

/-! ### equality -/
theorem eqTyS (n : Nat) (ih : ∀ a b : Ty, a.size < n → AFn Try.prog 84 [.agg (tyC a), .agg (tyC b)] (.one (.sc (.bool (a.same b))))) (l m : List Ty) (hn : Ty.sizes l < n) (hlen : l.length < 4611686018427387904) :
    AFn Try.prog 146 [.one (.sl (tyR l)), .one (.sl (tyR m))] (.one (.sc (.bool (Ty.sames l m)))) := by
  rw [Ty.sames_all2]
  by_cases hlm : l.length = m.length
  · have hb0 : ((l.length : Int) == (m.length : Int)) = true := by simp; omega
    refine fn_in ?_; refine acl_in Try.func146 rfl isfn_146 (Nat.le_of_ble_eq_true rfl) (fun R hR => ?_); rw [Try.results146] at hR; refine wg_run ?_; (simp only [Try.f146, go_sem, hb0, int_bne])
    refine wd_for [0, 1, 5] (fun k => [.one (.sl (tyR l)), .one (.sl (tyR m)), .one (.sc (.int .i64 (k : Nat)))]) (fun _ => [])
      (fun k => k ≤ l.length ∧ all2 Ty.same (l.drop k) (m.drop k) = all2 Ty.same l m) (fun k => l.length - k) 0 ⟨Nat.zero_le _, rfl⟩ (hat [] (hI := ⟨rfl, rfl⟩)) ?_
    rintro k ⟨hk, hs⟩ G hG
    refine wg_run ?_
    (simp only [go_sem])
    ((first | refine sp1 ?_ ?_ | refine sp2 ?_ ?_ | refine sp3 ?_ ?_ | refine sp4 ?_ ?_ | refine sp5 ?_ ?_ | refine sp6 ?_ ?_ | refine sp7 ?_ ?_) <;> intro hb) <;> (simp only [go_sem, hb])
    · have hk1 : k < l.length := by have := of_decide_eq_true hb; omega
      have hk2 : decide ((k : Int) < (m.length : Int)) = true := by simp; omega
      have hw1 := wrap_succ hk1 (by omega)
      rw [tyall2_kid hk1 (by omega)] at hs
      have hc := ih (kid l k) (kid m k) (by rw [kid_eq hk1]; have := Ty.sizes_mem (List.getElem_mem hk1); omega)
      repeat' (first | (first | (simp only [go_sem, hb, hk2, hw1]) | (((first | refine sp1 ?_ ?_ | refine sp2 ?_ ?_ | refine sp3 ?_ ?_ | refine sp4 ?_ ?_ | refine sp5 ?_ ?_ | refine sp6 ?_ ?_ | refine sp7 ?_ ?_) <;> intro hb) <;> (simp only [go_sem, hb, hb, hk2, hw1])) | ((first | refine wm_done ?_ | refine wt_done ?_ | refine wg_run ?_ | refine fk ?_ ?_) <;> (simp only [go_sem, hb, hk2, hw1]))) | ((first | refine mx 6 [] follows ?_ | refine mx 5 [] follows ?_ | refine mx 4 [] follows ?_ | refine mx 3 [] follows ?_ | refine mx 2 [] follows ?_ | refine mx 1 [] follows ?_ | refine mx 0 [] follows ?_ | fail); (simp only [go_sem, hb, hk2])) | (first | refine cd (hc := hc) (hK := ?_) | refine cm (hc := hc) (hK := ?_) | refine ct (hc := hc) (hK := ?_)); (simp only [go_sem]))
      · exact hG (k + 1) _ _ ⟨by omega, by simpa [hb] using hs⟩ (by omega) (hat [] (hI := ⟨rfl, rfl⟩))
      · (refine hR _ (rat [] (hK := ⟨?_, rfl⟩)))
        simpa [hb] using hs
    · have hk1 : ¬ k < l.length := by have := of_decide_eq_false hb; omega
      rw [tyall2_end hk1 hlm] at hs
      (refine hR _ (rat [] (hK := ⟨?_, rfl⟩)))
      rw [hs]
  · have hb0 : ((l.length : Int) == (m.length : Int)) = false := by simp; omega
    refine fn_in ?_; refine acl_in Try.func146 rfl isfn_146 (Nat.le_of_ble_eq_true rfl) (fun R hR => ?_); rw [Try.results146] at hR; refine wg_run ?_; (simp only [Try.f146, go_sem, hb0, int_bne])
    (refine hR _ (rat [] (hK := ⟨?_, rfl⟩)))
    rw [all2_len hlm]

/-! ### copies from the law's types to the program's -/
theorem toTyS (n : Nat) (ih : ∀ t : Ty, t.size < n → AFn Try.prog 79 [.agg (tyC t)] (.agg (tyC t))) (l : List Ty) (hn : Ty.sizes l < n) (hlen : l.length < 1099511627776) :
    AFn Try.prog 144 [.one (.sl (tyR l))] (.one (.sl (tyR l))) := by
  have hcap : decide ((32 : Int) * (l.length : Int) ≤ 140737488355328 ∧ (l.length : Int) ≤ 140737488355328) = true := by simp; omega
  refine fn_in ?_; refine acl_in Try.func144 rfl isfn_144 (Nat.le_of_ble_eq_true rfl) (fun R hR => ?_); rw [Try.results144] at hR; refine wg_run ?_; (simp only [Try.f144, go_sem, hcap])
  rw [← tyF_0 l]
  refine wd_for [0, 3, 4] (fun k => [.one (.sl (tyR l)), .one (.row 2 0 l.length), .one (.sc (.int .i64 (k : Nat)))]) (fun k => [⟨2, 25, .mut, tyF l k⟩])
    (fun k => k ≤ l.length) (fun k => l.length - k) 0 (Nat.zero_le _) (head_at [0] (by (simp only [go_sem]); first | done | rfl) (by (simp only [go_sem]); generalize treeRows _ = b; cases b <;> rfl) ⟨rfl, rfl⟩) ?_
  rintro k hk G hG
  refine wg_run ?_
  (simp only [go_sem])
  ((first | refine sp1 ?_ ?_ | refine sp2 ?_ ?_ | refine sp3 ?_ ?_ | refine sp4 ?_ ?_ | refine sp5 ?_ ?_ | refine sp6 ?_ ?_ | refine sp7 ?_ ?_) <;> intro hb) <;> (simp only [go_sem, hb])
  · have hk1 : k < l.length := by have := of_decide_eq_true hb; omega
    have hw1 := wrap_succ hk1 (by omega)
    have hc := ih (kid l k) (by rw [kid_eq hk1]; have := Ty.sizes_mem (List.getElem_mem hk1); omega)
    have hkn : decide (k < l.length) = true := by simpa using hk1
    repeat' (first | (first | (simp only [go_sem, hb, hw1, hkn, tyF_get hk1, tyF_set hk1]) | (((first | refine sp1 ?_ ?_ | refine sp2 ?_ ?_ | refine sp3 ?_ ?_ | refine sp4 ?_ ?_ | refine sp5 ?_ ?_ | refine sp6 ?_ ?_ | refine sp7 ?_ ?_) <;> intro hb) <;> (simp only [go_sem, hb, hb, hw1, hkn, tyF_get hk1, tyF_set hk1])) | ((first | refine wm_done ?_ | refine wt_done ?_ | refine wg_run ?_ | refine fk ?_ ?_) <;> (simp only [go_sem, hb, hw1, hkn, tyF_get hk1, tyF_set hk1]))) | ((first | refine mx 6 [] follows ?_ | refine mx 5 [] follows ?_ | refine mx 4 [] follows ?_ | refine mx 3 [] follows ?_ | refine mx 2 [] follows ?_ | refine mx 1 [] follows ?_ | refine mx 0 [] follows ?_ | fail); (simp only [go_sem, hb, hkn, tyF_get hk1, tyF_set hk1])) | (first | refine cd (hc := hc) (hK := ?_) | refine cm (hc := hc) (hK := ?_) | refine ct (hc := hc) (hK := ?_)); (simp only [go_sem]))
    exact hG (k + 1) _ _ (by omega) (by omega) (head_at [0] (by (simp only [go_sem]); first | done | rfl) (by (simp only [go_sem]); generalize treeRows _ = b; cases b <;> rfl) ⟨rfl, rfl⟩)
  · have hk1 : k = l.length := by have := of_decide_eq_false hb; omega
    subst hk1
    rw [tyF_end]
    (refine hR _ (rat [] (hK := ⟨?_, rfl⟩)))
    rfl

theorem szTy (n : Nat) : ∀ t : Ty, t.size < n → t.fits → ∀ left : Int, 0 ≤ left → left ≤ 1048576 → AFn Try.prog 75 [.agg (tyC t), .one (.sc (.int .i64 left))] (.one (.sc (.int .i64 (szR t.wt left)))) := by
  induction n with
  | zero => intro t h; omega
  | succ n ih =>
    intro t h hf left h0 h1
    have hc := szTyS n ih t.kids (by cases t; simp only [Ty.size, Ty.kids] at *; omega) (by cases t; exact hf.1) (by cases t; exact hf.2) left h0 h1
    have e : t.wt = Ty.wts t.kids := by cases t; rfl
    rw [← e] at hc
    refine fn_in ?_; refine acl_in Try.func75 rfl isfn_75 (Nat.le_of_ble_eq_true rfl) (fun R hR => ?_); rw [Try.results75] at hR; refine wg_run ?_; (simp only [Try.f75, go_sem])
    (first | refine cd (hc := hc) (hK := ?_) | refine cm (hc := hc) (hK := ?_) | refine ct (hc := hc) (hK := ?_)); (simp only [go_sem])
    repeat' (first | (((first | refine sp1 ?_ ?_ | refine sp2 ?_ ?_ | refine sp3 ?_ ?_ | refine sp4 ?_ ?_ | refine sp5 ?_ ?_ | refine sp6 ?_ ?_ | refine sp7 ?_ ?_) <;> intro hb) <;> (simp only [go_sem, hb])) | ((first | refine wm_done ?_ | refine wt_done ?_ | refine wg_run ?_ | refine fk ?_ ?_) <;> (simp only [go_sem])))
    · (refine hR _ (rat [] (hK := ⟨?_, rfl⟩)))
      rw [szR_neg hb]
    · (refine hR _ (rat [] (hK := ⟨rfl, rfl⟩)))
theorem eqTy (n : Nat) (hn : n ≤ 4611686018427387904) : ∀ a b : Ty, a.size < n → AFn Try.prog 84 [.agg (tyC a), .agg (tyC b)] (.one (.sc (.bool (a.same b)))) := by
  induction n with
  | zero => intro a b h; omega
  | succ n ih =>
    intro a b h
    have hc := eqTyS n (ih (by omega)) a.kids b.kids (by cases a; simp only [Ty.size, Ty.kids] at *; omega) (by have := Ty.length_le_sizes a.kids; cases a; simp only [Ty.size, Ty.kids] at *; omega)
    have e : a.same b = (a.kind == b.kind && Ty.sames a.kids b.kids) := by cases a; cases b; rfl
    rw [e]
    refine fn_in ?_; refine acl_in Try.func84 rfl isfn_84 (Nat.le_of_ble_eq_true rfl) (fun R hR => ?_); rw [Try.results84] at hR; refine wg_run ?_; (simp only [Try.f84, go_sem])
    repeat' (first | (first | (simp only [go_sem, int_bne]) | (((first | refine sp1 ?_ ?_ | refine sp2 ?_ ?_ | refine sp3 ?_ ?_ | refine sp4 ?_ ?_ | refine sp5 ?_ ?_ | refine sp6 ?_ ?_ | refine sp7 ?_ ?_) <;> intro hb) <;> (simp only [go_sem, hb, int_bne])) | ((first | refine wm_done ?_ | refine wt_done ?_ | refine wg_run ?_ | refine fk ?_ ?_) <;> (simp only [go_sem, int_bne]))) | (first | refine cd (hc := hc) (hK := ?_) | refine cm (hc := hc) (hK := ?_) | refine ct (hc := hc) (hK := ?_)); (simp only [go_sem]) | ((first | refine mx 6 [] follows ?_ | refine mx 5 [] follows ?_ | refine mx 4 [] follows ?_ | refine mx 3 [] follows ?_ | refine mx 2 [] follows ?_ | refine mx 1 [] follows ?_ | refine mx 0 [] follows ?_ | fail); (simp only [go_sem])))
    all_goals (refine hR _ (rat [] (hK := ⟨?_, rfl⟩)))
    all_goals simp_all
theorem toTy (n : Nat) (hn : n ≤ 1099511627776) : ∀ t : Ty, t.size < n → AFn Try.prog 79 [.agg (tyC t)] (.agg (tyC t)) := by
  induction n with
  | zero => intro t h; omega
  | succ n ih =>
    intro t h
    have hc := toTyS n (ih (by omega)) t.kids (by cases t; simp only [Ty.size, Ty.kids] at *; omega) (by have := Ty.length_le_sizes t.kids; cases t; simp only [Ty.size, Ty.kids] at *; omega)
    refine fn_in ?_; refine acl_in Try.func79 rfl isfn_79 (Nat.le_of_ble_eq_true rfl) (fun R hR => ?_); rw [Try.results79] at hR; refine wg_run ?_; (simp only [Try.f79, go_sem])
    repeat' (first | (first | (((first | refine sp1 ?_ ?_ | refine sp2 ?_ ?_ | refine sp3 ?_ ?_ | refine sp4 ?_ ?_ | refine sp5 ?_ ?_ | refine sp6 ?_ ?_ | refine sp7 ?_ ?_) <;> intro hb) <;> (simp only [go_sem, hb])) | ((first | refine wm_done ?_ | refine wt_done ?_ | refine wg_run ?_ | refine fk ?_ ?_) <;> (simp only [go_sem]))) | (first | refine cd (hc := hc) (hK := ?_) | refine cm (hc := hc) (hK := ?_) | refine ct (hc := hc) (hK := ?_)); (simp only [go_sem]) | ((first | refine mx 6 [] follows ?_ | refine mx 5 [] follows ?_ | refine mx 4 [] follows ?_ | refine mx 3 [] follows ?_ | refine mx 2 [] follows ?_ | refine mx 1 [] follows ?_ | refine mx 0 [] follows ?_ | fail); (simp only [go_sem])))
    (refine hR _ (rat [] (hK := ⟨?_, rfl⟩)))
    rw [tyC_eq]
end Go.Proofs.Ytfgjiamolknicaa
