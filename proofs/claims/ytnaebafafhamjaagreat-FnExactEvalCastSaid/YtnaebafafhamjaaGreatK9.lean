/- Texts of the proof, one behind another. -/
import Derived.Test.YtnaebafafhamjaaGreatK8
set_option linter.unusedSimpArgs false
set_option linter.unusedVariables false
/- Steps of terms with casts, in the program. On shadows. -/
namespace Go.Proofs.Grad
/-- what the program's step hands back: a term that counts only if a step was taken -/
def E.so : E → Tm
  | .app a b => match a.val with | false => nd 6 [a.so, b.tm] | true => (match b.val with | false => nd 6 [a.tm, b.so] | true => (ruleApp a b).tm)
  | .add a b => match a.val with | false => nd 7 [a.so, b.tm] | true => (match b.val with | false => nd 7 [a.tm, b.so] | true => (ruleAdd a b).tm)
  | .less a b => match a.val with | false => nd 8 [a.so, b.tm] | true => (match b.val with | false => nd 8 [a.tm, b.so] | true => (ruleLess a b).tm)
  | .ite a b c => match a.val with | false => nd 9 [a.so, b.tm, c.tm] | true => (ruleIte a b c).tm
  | .pair a b => match a.val with | false => nd 10 [a.so, b.tm] | true => (match b.val with | false => nd 10 [a.tm, b.so] | true => tm0)
  | .fst a => match a.val with | false => nd 11 [a.so] | true => (ruleFst a).tm
  | .snd a => match a.val with | false => nd 12 [a.so] | true => (ruleSnd a).tm
  | .cast s t l a => match a.val with | false => .mk 14 ByteArray.empty 0 t.ty s.ty l [a.so] | true => (ruleCast s t l a).tm
  | _ => tm0
theorem SR.map_code {r : SR} {f : E → E} : (r.map f).code = r.code := by cases r <;> rfl
theorem SR.map_lab {r : SR} {f : E → E} : (r.map f).lab = r.lab := by cases r <;> rfl
theorem SR.map_took {r : SR} {f : E → E} {e : E} (h : r.map f = .took e) : ∃ x, r = .took x ∧ e = f x := by
  cases r with
  | took x => simp only [SR.map, SR.took.injEq] at h; exact ⟨x, rfl, h.symm⟩
  | _ => simp [SR.map] at h
theorem E.so_took (e : E) : ∀ x : E, e.val = false → e.step = .took x → e.so = x.tm := by
  induction e with
  | app a b iha ihb =>
    intro x hv h
    simp only [E.step, E.so] at h ⊢
    cases ea : a.val
    · simp only [ea] at h ⊢; obtain ⟨y, hy, rfl⟩ := SR.map_took h; rw [iha y ea hy]; rfl
    · simp only [ea] at h ⊢
      cases eb : b.val
      · simp only [eb] at h ⊢; obtain ⟨y, hy, rfl⟩ := SR.map_took h; rw [ihb y eb hy]; rfl
      · simp only [eb] at h ⊢; rw [h]; rfl
  | add a b iha ihb =>
    intro x hv h
    simp only [E.step, E.so] at h ⊢
    cases ea : a.val
    · simp only [ea] at h ⊢; obtain ⟨y, hy, rfl⟩ := SR.map_took h; rw [iha y ea hy]; rfl
    · simp only [ea] at h ⊢
      cases eb : b.val
      · simp only [eb] at h ⊢; obtain ⟨y, hy, rfl⟩ := SR.map_took h; rw [ihb y eb hy]; rfl
      · simp only [eb] at h ⊢; rw [h]; rfl
  | less a b iha ihb =>
    intro x hv h
    simp only [E.step, E.so] at h ⊢
    cases ea : a.val
    · simp only [ea] at h ⊢; obtain ⟨y, hy, rfl⟩ := SR.map_took h; rw [iha y ea hy]; rfl
    · simp only [ea] at h ⊢
      cases eb : b.val
      · simp only [eb] at h ⊢; obtain ⟨y, hy, rfl⟩ := SR.map_took h; rw [ihb y eb hy]; rfl
      · simp only [eb] at h ⊢; rw [h]; rfl
  | pair a b iha ihb =>
    intro x hv h
    simp only [E.step, E.so] at h ⊢
    cases ea : a.val
    · simp only [ea] at h ⊢; obtain ⟨y, hy, rfl⟩ := SR.map_took h; rw [iha y ea hy]; rfl
    · simp only [ea] at h ⊢
      cases eb : b.val
      · simp only [eb] at h ⊢; obtain ⟨y, hy, rfl⟩ := SR.map_took h; rw [ihb y eb hy]; rfl
      · simp [eb] at h
  | ite a b c iha ihb ihc =>
    intro x hv h
    simp only [E.step, E.so] at h ⊢
    cases ea : a.val
    · simp only [ea] at h ⊢; obtain ⟨y, hy, rfl⟩ := SR.map_took h; rw [iha y ea hy]; rfl
    · simp only [ea] at h ⊢; rw [h]; rfl
  | fst a ih | snd a ih | cast s t l a ih =>
    intro x hv h
    simp only [E.step, E.so] at h ⊢
    cases ea : a.val
    · simp only [ea] at h ⊢; obtain ⟨y, hy, rfl⟩ := SR.map_took h; rw [ih y ea hy]; rfl
    · simp only [ea] at h ⊢; rw [h]; rfl
  | _ => intro x hv h; simp [E.step] at h
end Go.Proofs.Grad
namespace Go.Proofs.YtnaebafafhamjaaGreat
open Go.RowKit Go.Proofs.Sh Go.Proofs.Grad
set_option maxRecDepth 100000
set_option maxHeartbeats 8000000
theorem iCounts (t : Tm) : AFn Tryz.prog 162 [.agg (teC t)] (.one (.sc (.int .i64 (match t.kind == 9 with | true => 1 | false => (t.kids.length : Int))))) := by
  cases h : (t.kind == 9)
  all_goals
    refine fn_in ?_; refine acl_in Tryz.func162 rfl isfn_162 (Nat.le_of_ble_eq_true rfl) (fun R hR => ?_); rw [Tryz.results162] at hR; refine wg_run ?_; (simp only [Tryz.f162, go_sem, h])
    repeat' (first | (simp only [go_sem, h]) | (((first | refine sp1 ?_ ?_ | refine sp2 ?_ ?_ | refine sp3 ?_ ?_ | refine sp4 ?_ ?_ | refine sp5 ?_ ?_ | refine sp6 ?_ ?_ | refine sp7 ?_ ?_) <;> intro hb) <;> (simp only [go_sem, hb, h])) | ((first | refine wm_done ?_ | refine wt_done ?_ | refine wg_run ?_ | refine fk ?_ ?_) <;> (simp only [go_sem, h])))
    all_goals (refine hR _ ?_; refine rat [] (hK := ⟨rfl, rfl⟩))
def CloneT (l : List Tm) (r : AV) (H' : List Blk) : Prop := r = .one (.row 9 0 l.length) ∧ H' = [⟨9, 28, .mut, teR l⟩]
theorem cloneT (t : Tm) (l : List Tm) (hl : l.length < 1000) : ACl Tryz.prog 163 [.one (.sl (teR (t :: l)))] [] (CloneT (t :: l)) := by
  have hcap : (l.length + 1) * 128 ≤ 140737488355328 := by omega
  refine acl_in Tryz.func163 rfl isfn_163 (Nat.le_of_ble_eq_true rfl) (fun R hR => ?_); rw [Tryz.results163] at hR; refine wg_run ?_; (simp only [Tryz.f163, go_sem, hcap])
  repeat' (first | (first | (simp only [go_sem, hcap]) | (((first | refine sp1 ?_ ?_ | refine sp2 ?_ ?_ | refine sp3 ?_ ?_ | refine sp4 ?_ ?_ | refine sp5 ?_ ?_ | refine sp6 ?_ ?_ | refine sp7 ?_ ?_) <;> intro hb) <;> (simp only [go_sem, hb, hcap])) | ((first | refine wm_done ?_ | refine wt_done ?_ | refine wg_run ?_ | refine fk ?_ ?_) <;> (simp only [go_sem, hcap]))) | ((first | refine mx 6 [] follows ?_ | refine mx 5 [] follows ?_ | refine mx 4 [] follows ?_ | refine mx 3 [] follows ?_ | refine mx 2 [] follows ?_ | refine mx 1 [] follows ?_ | refine mx 0 [] follows ?_ | fail); (simp only [go_sem, hcap])) | fail)
  exact hR _ (rwn [1] (hK := ⟨rfl, rfl⟩))
def stT (e : E) : AV := .tup [.agg (teC e.so), .one (.sc (.int .i64 e.step.code)), .one (.sc (.int .i64 e.step.lab))]
/-- two operands -/
theorem iStepR (e : E) (x : E) (h : e.wf = true) (hz : e.tm.size < 100000000) : True := trivial
theorem red_cases (e : E) : (∃ x, e.ruleI = some x ∧ e.red = .took x) ∨ (e.ruleI = none ∧ e.red = e.castR) := by
  unfold E.red
  cases h : e.ruleI with
  | some x => exact .inl ⟨x, rfl, rfl⟩
  | none => exact .inr ⟨rfl, rfl⟩
theorem iStep (e : E) : e.wf = true → e.noA = true → e.val = false → e.tm.size < 100000000 → AFn Tryz.prog 113 [.agg (teC e.tm)] (stT e) := by
  induction e with
  | app a b iha ihb =>
    intro hw hn hv hz
    have hc := iCounts (E.app a b).tm
    have hr := iRule (.app a b) hw
    have hcr := iCastRule (.app a b) hw hz (by simp [E.tm, nd, Tm.kids])
    have hred := red_app a b
    simp only [E.wf, E.noA, Bool.and_eq_true] at hw hn
    simp only [E.tm, nd, Tm.size, Tm.sizes] at hz
    have va := iIsVal 100000000 (by omega) a.tm (by omega)
    have vb := iIsVal 100000000 (by omega) b.tm (by omega)
    rw [E.val_tm] at va vb
    have hcl := cloneT a.tm [b.tm] (by simp)
    simp only [stT, E.so, E.step]
    cases ea : a.val
    · rw [ea] at va
      have h1 := iha hw.1 hn.1 ea (by omega)
      simp only [stT] at h1
      simp only [SR.map_code, SR.map_lab]
      simp only [E.tm, nd] at hc ⊢
      refine fn_in ?_; refine acl_in Tryz.func113 rfl isfn_113 (Nat.le_of_ble_eq_true rfl) (fun R hR => ?_); rw [Tryz.results113] at hR; refine wg_run ?_; (simp only [Tryz.f113, go_sem])
      repeat' (first | (first | (simp only [go_sem, int_bne]) | (((first | refine sp1 ?_ ?_ | refine sp2 ?_ ?_ | refine sp3 ?_ ?_ | refine sp4 ?_ ?_ | refine sp5 ?_ ?_ | refine sp6 ?_ ?_ | refine sp7 ?_ ?_) <;> intro hb) <;> (simp only [go_sem, hb, int_bne])) | ((first | refine wm_done ?_ | refine wt_done ?_ | refine wg_run ?_ | refine fk ?_ ?_) <;> (simp only [go_sem, int_bne]))) | (first | (refine wl_next (wg_run ?_); (simp only [go_sem])) | refine wd_rounds 6 ?_) | ((first | refine mx 6 [] follows ?_ | refine mx 5 [] follows ?_ | refine mx 4 [] follows ?_ | refine mx 3 [] follows ?_ | refine mx 2 [] follows ?_ | refine mx 1 [] follows ?_ | refine mx 0 [] follows ?_ | fail); (simp only [go_sem, int_bne])) | (first | refine cd (hc := hc) (hK := ?_) | refine cm (hc := hc) (hK := ?_) | refine ct (hc := hc) (hK := ?_)); (simp only [go_sem]) | (first | refine cd (hc := va) (hK := ?_) | refine cm (hc := va) (hK := ?_) | refine ct (hc := va) (hK := ?_)); (simp only [go_sem]) | (first | refine cd (hc := vb) (hK := ?_) | refine cm (hc := vb) (hK := ?_) | refine ct (hc := vb) (hK := ?_)); (simp only [go_sem]) | (first | refine cd (hc := h1) (hK := ?_) | refine cm (hc := h1) (hK := ?_) | refine ct (hc := h1) (hK := ?_)); (simp only [go_sem]) | ((first | refine kd [] (hc := hcl) (hK := ?_) | refine km [] (hc := hcl) (hK := ?_) | refine kt [] (hc := hcl) (hK := ?_)); rintro _ _ ⟨rfl, rfl⟩ <;> (simp only [go_sem])) | fail)
      all_goals (refine hR _ ?_; refine rat [] (hK := ⟨rfl, rfl⟩))
    · rw [ea] at va
      simp only []
      cases eb : b.val
      · rw [eb] at vb
        have h1 := ihb hw.2 hn.2 eb (by omega)
        simp only [stT] at h1
        simp only [SR.map_code, SR.map_lab]
        simp only [E.tm, nd] at hc ⊢
        refine fn_in ?_; refine acl_in Tryz.func113 rfl isfn_113 (Nat.le_of_ble_eq_true rfl) (fun R hR => ?_); rw [Tryz.results113] at hR; refine wg_run ?_; (simp only [Tryz.f113, go_sem])
        repeat' (first | (first | (simp only [go_sem, int_bne]) | (((first | refine sp1 ?_ ?_ | refine sp2 ?_ ?_ | refine sp3 ?_ ?_ | refine sp4 ?_ ?_ | refine sp5 ?_ ?_ | refine sp6 ?_ ?_ | refine sp7 ?_ ?_) <;> intro hb) <;> (simp only [go_sem, hb, int_bne])) | ((first | refine wm_done ?_ | refine wt_done ?_ | refine wg_run ?_ | refine fk ?_ ?_) <;> (simp only [go_sem, int_bne]))) | (first | (refine wl_next (wg_run ?_); (simp only [go_sem])) | refine wd_rounds 6 ?_) | ((first | refine mx 6 [] follows ?_ | refine mx 5 [] follows ?_ | refine mx 4 [] follows ?_ | refine mx 3 [] follows ?_ | refine mx 2 [] follows ?_ | refine mx 1 [] follows ?_ | refine mx 0 [] follows ?_ | fail); (simp only [go_sem, int_bne])) | (first | refine cd (hc := hc) (hK := ?_) | refine cm (hc := hc) (hK := ?_) | refine ct (hc := hc) (hK := ?_)); (simp only [go_sem]) | (first | refine cd (hc := va) (hK := ?_) | refine cm (hc := va) (hK := ?_) | refine ct (hc := va) (hK := ?_)); (simp only [go_sem]) | (first | refine cd (hc := vb) (hK := ?_) | refine cm (hc := vb) (hK := ?_) | refine ct (hc := vb) (hK := ?_)); (simp only [go_sem]) | (first | refine cd (hc := h1) (hK := ?_) | refine cm (hc := h1) (hK := ?_) | refine ct (hc := h1) (hK := ?_)); (simp only [go_sem]) | ((first | refine kd [] (hc := hcl) (hK := ?_) | refine km [] (hc := hcl) (hK := ?_) | refine kt [] (hc := hcl) (hK := ?_)); rintro _ _ ⟨rfl, rfl⟩ <;> (simp only [go_sem])) | fail)
        all_goals (refine hR _ ?_; refine rat [] (hK := ⟨rfl, rfl⟩))
      · rw [eb] at vb
        simp only []
        rcases red_cases (.app a b) with ⟨x, e1, e2⟩ | ⟨e1, e2⟩
        all_goals
          rw [e2] at hred
          rw [← hred]
          rw [e1] at hr
          simp only [ruT, srT, SR.tm, SR.code, SR.lab] at hr hcr ⊢
          simp only [E.tm, nd] at hc hr hcr ⊢
          refine fn_in ?_; refine acl_in Tryz.func113 rfl isfn_113 (Nat.le_of_ble_eq_true rfl) (fun R hR => ?_); rw [Tryz.results113] at hR; refine wg_run ?_; (simp only [Tryz.f113, go_sem])
          repeat' (first | (first | (simp only [go_sem, int_bne]) | (((first | refine sp1 ?_ ?_ | refine sp2 ?_ ?_ | refine sp3 ?_ ?_ | refine sp4 ?_ ?_ | refine sp5 ?_ ?_ | refine sp6 ?_ ?_ | refine sp7 ?_ ?_) <;> intro hb) <;> (simp only [go_sem, hb, int_bne])) | ((first | refine wm_done ?_ | refine wt_done ?_ | refine wg_run ?_ | refine fk ?_ ?_) <;> (simp only [go_sem, int_bne]))) | (first | (refine wl_next (wg_run ?_); (simp only [go_sem])) | refine wd_rounds 6 ?_) | ((first | refine mx 6 [] follows ?_ | refine mx 5 [] follows ?_ | refine mx 4 [] follows ?_ | refine mx 3 [] follows ?_ | refine mx 2 [] follows ?_ | refine mx 1 [] follows ?_ | refine mx 0 [] follows ?_ | fail); (simp only [go_sem, int_bne])) | (first | refine cd (hc := hc) (hK := ?_) | refine cm (hc := hc) (hK := ?_) | refine ct (hc := hc) (hK := ?_)); (simp only [go_sem]) | (first | refine cd (hc := va) (hK := ?_) | refine cm (hc := va) (hK := ?_) | refine ct (hc := va) (hK := ?_)); (simp only [go_sem]) | (first | refine cd (hc := vb) (hK := ?_) | refine cm (hc := vb) (hK := ?_) | refine ct (hc := vb) (hK := ?_)); (simp only [go_sem]) | (first | refine cd (hc := hr) (hK := ?_) | refine cm (hc := hr) (hK := ?_) | refine ct (hc := hr) (hK := ?_)); (simp only [go_sem]) | (first | refine cd (hc := hcr) (hK := ?_) | refine cm (hc := hcr) (hK := ?_) | refine ct (hc := hcr) (hK := ?_)); (simp only [go_sem]) | fail)
          all_goals (refine hR _ ?_; refine rat [] (hK := ⟨rfl, rfl⟩))
  | add a b iha ihb =>
    intro hw hn hv hz
    have hc := iCounts (E.add a b).tm
    have hr := iRule (.add a b) hw
    have hcr := iCastRule (.add a b) hw hz (by simp [E.tm, nd, Tm.kids])
    have hred := red_add a b
    simp only [E.wf, E.noA, Bool.and_eq_true] at hw hn
    simp only [E.tm, nd, Tm.size, Tm.sizes] at hz
    have va := iIsVal 100000000 (by omega) a.tm (by omega)
    have vb := iIsVal 100000000 (by omega) b.tm (by omega)
    rw [E.val_tm] at va vb
    have hcl := cloneT a.tm [b.tm] (by simp)
    simp only [stT, E.so, E.step]
    cases ea : a.val
    · rw [ea] at va
      have h1 := iha hw.1 hn.1 ea (by omega)
      simp only [stT] at h1
      simp only [SR.map_code, SR.map_lab]
      simp only [E.tm, nd] at hc ⊢
      refine fn_in ?_; refine acl_in Tryz.func113 rfl isfn_113 (Nat.le_of_ble_eq_true rfl) (fun R hR => ?_); rw [Tryz.results113] at hR; refine wg_run ?_; (simp only [Tryz.f113, go_sem])
      repeat' (first | (first | (simp only [go_sem, int_bne]) | (((first | refine sp1 ?_ ?_ | refine sp2 ?_ ?_ | refine sp3 ?_ ?_ | refine sp4 ?_ ?_ | refine sp5 ?_ ?_ | refine sp6 ?_ ?_ | refine sp7 ?_ ?_) <;> intro hb) <;> (simp only [go_sem, hb, int_bne])) | ((first | refine wm_done ?_ | refine wt_done ?_ | refine wg_run ?_ | refine fk ?_ ?_) <;> (simp only [go_sem, int_bne]))) | (first | (refine wl_next (wg_run ?_); (simp only [go_sem])) | refine wd_rounds 6 ?_) | ((first | refine mx 6 [] follows ?_ | refine mx 5 [] follows ?_ | refine mx 4 [] follows ?_ | refine mx 3 [] follows ?_ | refine mx 2 [] follows ?_ | refine mx 1 [] follows ?_ | refine mx 0 [] follows ?_ | fail); (simp only [go_sem, int_bne])) | (first | refine cd (hc := hc) (hK := ?_) | refine cm (hc := hc) (hK := ?_) | refine ct (hc := hc) (hK := ?_)); (simp only [go_sem]) | (first | refine cd (hc := va) (hK := ?_) | refine cm (hc := va) (hK := ?_) | refine ct (hc := va) (hK := ?_)); (simp only [go_sem]) | (first | refine cd (hc := vb) (hK := ?_) | refine cm (hc := vb) (hK := ?_) | refine ct (hc := vb) (hK := ?_)); (simp only [go_sem]) | (first | refine cd (hc := h1) (hK := ?_) | refine cm (hc := h1) (hK := ?_) | refine ct (hc := h1) (hK := ?_)); (simp only [go_sem]) | ((first | refine kd [] (hc := hcl) (hK := ?_) | refine km [] (hc := hcl) (hK := ?_) | refine kt [] (hc := hcl) (hK := ?_)); rintro _ _ ⟨rfl, rfl⟩ <;> (simp only [go_sem])) | fail)
      all_goals (refine hR _ ?_; refine rat [] (hK := ⟨rfl, rfl⟩))
    · rw [ea] at va
      simp only []
      cases eb : b.val
      · rw [eb] at vb
        have h1 := ihb hw.2 hn.2 eb (by omega)
        simp only [stT] at h1
        simp only [SR.map_code, SR.map_lab]
        simp only [E.tm, nd] at hc ⊢
        refine fn_in ?_; refine acl_in Tryz.func113 rfl isfn_113 (Nat.le_of_ble_eq_true rfl) (fun R hR => ?_); rw [Tryz.results113] at hR; refine wg_run ?_; (simp only [Tryz.f113, go_sem])
        repeat' (first | (first | (simp only [go_sem, int_bne]) | (((first | refine sp1 ?_ ?_ | refine sp2 ?_ ?_ | refine sp3 ?_ ?_ | refine sp4 ?_ ?_ | refine sp5 ?_ ?_ | refine sp6 ?_ ?_ | refine sp7 ?_ ?_) <;> intro hb) <;> (simp only [go_sem, hb, int_bne])) | ((first | refine wm_done ?_ | refine wt_done ?_ | refine wg_run ?_ | refine fk ?_ ?_) <;> (simp only [go_sem, int_bne]))) | (first | (refine wl_next (wg_run ?_); (simp only [go_sem])) | refine wd_rounds 6 ?_) | ((first | refine mx 6 [] follows ?_ | refine mx 5 [] follows ?_ | refine mx 4 [] follows ?_ | refine mx 3 [] follows ?_ | refine mx 2 [] follows ?_ | refine mx 1 [] follows ?_ | refine mx 0 [] follows ?_ | fail); (simp only [go_sem, int_bne])) | (first | refine cd (hc := hc) (hK := ?_) | refine cm (hc := hc) (hK := ?_) | refine ct (hc := hc) (hK := ?_)); (simp only [go_sem]) | (first | refine cd (hc := va) (hK := ?_) | refine cm (hc := va) (hK := ?_) | refine ct (hc := va) (hK := ?_)); (simp only [go_sem]) | (first | refine cd (hc := vb) (hK := ?_) | refine cm (hc := vb) (hK := ?_) | refine ct (hc := vb) (hK := ?_)); (simp only [go_sem]) | (first | refine cd (hc := h1) (hK := ?_) | refine cm (hc := h1) (hK := ?_) | refine ct (hc := h1) (hK := ?_)); (simp only [go_sem]) | ((first | refine kd [] (hc := hcl) (hK := ?_) | refine km [] (hc := hcl) (hK := ?_) | refine kt [] (hc := hcl) (hK := ?_)); rintro _ _ ⟨rfl, rfl⟩ <;> (simp only [go_sem])) | fail)
        all_goals (refine hR _ ?_; refine rat [] (hK := ⟨rfl, rfl⟩))
      · rw [eb] at vb
        simp only []
        rcases red_cases (.add a b) with ⟨x, e1, e2⟩ | ⟨e1, e2⟩
        all_goals
          rw [e2] at hred
          rw [← hred]
          rw [e1] at hr
          simp only [ruT, srT, SR.tm, SR.code, SR.lab] at hr hcr ⊢
          simp only [E.tm, nd] at hc hr hcr ⊢
          refine fn_in ?_; refine acl_in Tryz.func113 rfl isfn_113 (Nat.le_of_ble_eq_true rfl) (fun R hR => ?_); rw [Tryz.results113] at hR; refine wg_run ?_; (simp only [Tryz.f113, go_sem])
          repeat' (first | (first | (simp only [go_sem, int_bne]) | (((first | refine sp1 ?_ ?_ | refine sp2 ?_ ?_ | refine sp3 ?_ ?_ | refine sp4 ?_ ?_ | refine sp5 ?_ ?_ | refine sp6 ?_ ?_ | refine sp7 ?_ ?_) <;> intro hb) <;> (simp only [go_sem, hb, int_bne])) | ((first | refine wm_done ?_ | refine wt_done ?_ | refine wg_run ?_ | refine fk ?_ ?_) <;> (simp only [go_sem, int_bne]))) | (first | (refine wl_next (wg_run ?_); (simp only [go_sem])) | refine wd_rounds 6 ?_) | ((first | refine mx 6 [] follows ?_ | refine mx 5 [] follows ?_ | refine mx 4 [] follows ?_ | refine mx 3 [] follows ?_ | refine mx 2 [] follows ?_ | refine mx 1 [] follows ?_ | refine mx 0 [] follows ?_ | fail); (simp only [go_sem, int_bne])) | (first | refine cd (hc := hc) (hK := ?_) | refine cm (hc := hc) (hK := ?_) | refine ct (hc := hc) (hK := ?_)); (simp only [go_sem]) | (first | refine cd (hc := va) (hK := ?_) | refine cm (hc := va) (hK := ?_) | refine ct (hc := va) (hK := ?_)); (simp only [go_sem]) | (first | refine cd (hc := vb) (hK := ?_) | refine cm (hc := vb) (hK := ?_) | refine ct (hc := vb) (hK := ?_)); (simp only [go_sem]) | (first | refine cd (hc := hr) (hK := ?_) | refine cm (hc := hr) (hK := ?_) | refine ct (hc := hr) (hK := ?_)); (simp only [go_sem]) | (first | refine cd (hc := hcr) (hK := ?_) | refine cm (hc := hcr) (hK := ?_) | refine ct (hc := hcr) (hK := ?_)); (simp only [go_sem]) | fail)
          all_goals (refine hR _ ?_; refine rat [] (hK := ⟨rfl, rfl⟩))
  | less a b iha ihb =>
    intro hw hn hv hz
    have hc := iCounts (E.less a b).tm
    have hr := iRule (.less a b) hw
    have hcr := iCastRule (.less a b) hw hz (by simp [E.tm, nd, Tm.kids])
    have hred := red_less a b
    simp only [E.wf, E.noA, Bool.and_eq_true] at hw hn
    simp only [E.tm, nd, Tm.size, Tm.sizes] at hz
    have va := iIsVal 100000000 (by omega) a.tm (by omega)
    have vb := iIsVal 100000000 (by omega) b.tm (by omega)
    rw [E.val_tm] at va vb
    have hcl := cloneT a.tm [b.tm] (by simp)
    simp only [stT, E.so, E.step]
    cases ea : a.val
    · rw [ea] at va
      have h1 := iha hw.1 hn.1 ea (by omega)
      simp only [stT] at h1
      simp only [SR.map_code, SR.map_lab]
      simp only [E.tm, nd] at hc ⊢
      refine fn_in ?_; refine acl_in Tryz.func113 rfl isfn_113 (Nat.le_of_ble_eq_true rfl) (fun R hR => ?_); rw [Tryz.results113] at hR; refine wg_run ?_; (simp only [Tryz.f113, go_sem])
      repeat' (first | (first | (simp only [go_sem, int_bne]) | (((first | refine sp1 ?_ ?_ | refine sp2 ?_ ?_ | refine sp3 ?_ ?_ | refine sp4 ?_ ?_ | refine sp5 ?_ ?_ | refine sp6 ?_ ?_ | refine sp7 ?_ ?_) <;> intro hb) <;> (simp only [go_sem, hb, int_bne])) | ((first | refine wm_done ?_ | refine wt_done ?_ | refine wg_run ?_ | refine fk ?_ ?_) <;> (simp only [go_sem, int_bne]))) | (first | (refine wl_next (wg_run ?_); (simp only [go_sem])) | refine wd_rounds 6 ?_) | ((first | refine mx 6 [] follows ?_ | refine mx 5 [] follows ?_ | refine mx 4 [] follows ?_ | refine mx 3 [] follows ?_ | refine mx 2 [] follows ?_ | refine mx 1 [] follows ?_ | refine mx 0 [] follows ?_ | fail); (simp only [go_sem, int_bne])) | (first | refine cd (hc := hc) (hK := ?_) | refine cm (hc := hc) (hK := ?_) | refine ct (hc := hc) (hK := ?_)); (simp only [go_sem]) | (first | refine cd (hc := va) (hK := ?_) | refine cm (hc := va) (hK := ?_) | refine ct (hc := va) (hK := ?_)); (simp only [go_sem]) | (first | refine cd (hc := vb) (hK := ?_) | refine cm (hc := vb) (hK := ?_) | refine ct (hc := vb) (hK := ?_)); (simp only [go_sem]) | (first | refine cd (hc := h1) (hK := ?_) | refine cm (hc := h1) (hK := ?_) | refine ct (hc := h1) (hK := ?_)); (simp only [go_sem]) | ((first | refine kd [] (hc := hcl) (hK := ?_) | refine km [] (hc := hcl) (hK := ?_) | refine kt [] (hc := hcl) (hK := ?_)); rintro _ _ ⟨rfl, rfl⟩ <;> (simp only [go_sem])) | fail)
      all_goals (refine hR _ ?_; refine rat [] (hK := ⟨rfl, rfl⟩))
    · rw [ea] at va
      simp only []
      cases eb : b.val
      · rw [eb] at vb
        have h1 := ihb hw.2 hn.2 eb (by omega)
        simp only [stT] at h1
        simp only [SR.map_code, SR.map_lab]
        simp only [E.tm, nd] at hc ⊢
        refine fn_in ?_; refine acl_in Tryz.func113 rfl isfn_113 (Nat.le_of_ble_eq_true rfl) (fun R hR => ?_); rw [Tryz.results113] at hR; refine wg_run ?_; (simp only [Tryz.f113, go_sem])
        repeat' (first | (first | (simp only [go_sem, int_bne]) | (((first | refine sp1 ?_ ?_ | refine sp2 ?_ ?_ | refine sp3 ?_ ?_ | refine sp4 ?_ ?_ | refine sp5 ?_ ?_ | refine sp6 ?_ ?_ | refine sp7 ?_ ?_) <;> intro hb) <;> (simp only [go_sem, hb, int_bne])) | ((first | refine wm_done ?_ | refine wt_done ?_ | refine wg_run ?_ | refine fk ?_ ?_) <;> (simp only [go_sem, int_bne]))) | (first | (refine wl_next (wg_run ?_); (simp only [go_sem])) | refine wd_rounds 6 ?_) | ((first | refine mx 6 [] follows ?_ | refine mx 5 [] follows ?_ | refine mx 4 [] follows ?_ | refine mx 3 [] follows ?_ | refine mx 2 [] follows ?_ | refine mx 1 [] follows ?_ | refine mx 0 [] follows ?_ | fail); (simp only [go_sem, int_bne])) | (first | refine cd (hc := hc) (hK := ?_) | refine cm (hc := hc) (hK := ?_) | refine ct (hc := hc) (hK := ?_)); (simp only [go_sem]) | (first | refine cd (hc := va) (hK := ?_) | refine cm (hc := va) (hK := ?_) | refine ct (hc := va) (hK := ?_)); (simp only [go_sem]) | (first | refine cd (hc := vb) (hK := ?_) | refine cm (hc := vb) (hK := ?_) | refine ct (hc := vb) (hK := ?_)); (simp only [go_sem]) | (first | refine cd (hc := h1) (hK := ?_) | refine cm (hc := h1) (hK := ?_) | refine ct (hc := h1) (hK := ?_)); (simp only [go_sem]) | ((first | refine kd [] (hc := hcl) (hK := ?_) | refine km [] (hc := hcl) (hK := ?_) | refine kt [] (hc := hcl) (hK := ?_)); rintro _ _ ⟨rfl, rfl⟩ <;> (simp only [go_sem])) | fail)
        all_goals (refine hR _ ?_; refine rat [] (hK := ⟨rfl, rfl⟩))
      · rw [eb] at vb
        simp only []
        rcases red_cases (.less a b) with ⟨x, e1, e2⟩ | ⟨e1, e2⟩
        all_goals
          rw [e2] at hred
          rw [← hred]
          rw [e1] at hr
          simp only [ruT, srT, SR.tm, SR.code, SR.lab] at hr hcr ⊢
          simp only [E.tm, nd] at hc hr hcr ⊢
          refine fn_in ?_; refine acl_in Tryz.func113 rfl isfn_113 (Nat.le_of_ble_eq_true rfl) (fun R hR => ?_); rw [Tryz.results113] at hR; refine wg_run ?_; (simp only [Tryz.f113, go_sem])
          repeat' (first | (first | (simp only [go_sem, int_bne]) | (((first | refine sp1 ?_ ?_ | refine sp2 ?_ ?_ | refine sp3 ?_ ?_ | refine sp4 ?_ ?_ | refine sp5 ?_ ?_ | refine sp6 ?_ ?_ | refine sp7 ?_ ?_) <;> intro hb) <;> (simp only [go_sem, hb, int_bne])) | ((first | refine wm_done ?_ | refine wt_done ?_ | refine wg_run ?_ | refine fk ?_ ?_) <;> (simp only [go_sem, int_bne]))) | (first | (refine wl_next (wg_run ?_); (simp only [go_sem])) | refine wd_rounds 6 ?_) | ((first | refine mx 6 [] follows ?_ | refine mx 5 [] follows ?_ | refine mx 4 [] follows ?_ | refine mx 3 [] follows ?_ | refine mx 2 [] follows ?_ | refine mx 1 [] follows ?_ | refine mx 0 [] follows ?_ | fail); (simp only [go_sem, int_bne])) | (first | refine cd (hc := hc) (hK := ?_) | refine cm (hc := hc) (hK := ?_) | refine ct (hc := hc) (hK := ?_)); (simp only [go_sem]) | (first | refine cd (hc := va) (hK := ?_) | refine cm (hc := va) (hK := ?_) | refine ct (hc := va) (hK := ?_)); (simp only [go_sem]) | (first | refine cd (hc := vb) (hK := ?_) | refine cm (hc := vb) (hK := ?_) | refine ct (hc := vb) (hK := ?_)); (simp only [go_sem]) | (first | refine cd (hc := hr) (hK := ?_) | refine cm (hc := hr) (hK := ?_) | refine ct (hc := hr) (hK := ?_)); (simp only [go_sem]) | (first | refine cd (hc := hcr) (hK := ?_) | refine cm (hc := hcr) (hK := ?_) | refine ct (hc := hcr) (hK := ?_)); (simp only [go_sem]) | fail)
          all_goals (refine hR _ ?_; refine rat [] (hK := ⟨rfl, rfl⟩))
  | pair a b iha ihb =>
    intro hw hn hv hz
    have hc := iCounts (E.pair a b).tm
    have hr := iRule (.pair a b) hw
    have hcr := iCastRule (.pair a b) hw hz (by simp [E.tm, nd, Tm.kids])
    simp only [E.wf, E.noA, Bool.and_eq_true] at hw hn
    simp only [E.tm, nd, Tm.size, Tm.sizes] at hz
    have va := iIsVal 100000000 (by omega) a.tm (by omega)
    have vb := iIsVal 100000000 (by omega) b.tm (by omega)
    rw [E.val_tm] at va vb
    have hcl := cloneT a.tm [b.tm] (by simp)
    simp only [stT, E.so, E.step]
    cases ea : a.val
    · rw [ea] at va
      have h1 := iha hw.1 hn.1 ea (by omega)
      simp only [stT] at h1
      simp only [SR.map_code, SR.map_lab]
      simp only [E.tm, nd] at hc ⊢
      refine fn_in ?_; refine acl_in Tryz.func113 rfl isfn_113 (Nat.le_of_ble_eq_true rfl) (fun R hR => ?_); rw [Tryz.results113] at hR; refine wg_run ?_; (simp only [Tryz.f113, go_sem])
      repeat' (first | (first | (simp only [go_sem, int_bne]) | (((first | refine sp1 ?_ ?_ | refine sp2 ?_ ?_ | refine sp3 ?_ ?_ | refine sp4 ?_ ?_ | refine sp5 ?_ ?_ | refine sp6 ?_ ?_ | refine sp7 ?_ ?_) <;> intro hb) <;> (simp only [go_sem, hb, int_bne])) | ((first | refine wm_done ?_ | refine wt_done ?_ | refine wg_run ?_ | refine fk ?_ ?_) <;> (simp only [go_sem, int_bne]))) | (first | (refine wl_next (wg_run ?_); (simp only [go_sem])) | refine wd_rounds 6 ?_) | ((first | refine mx 6 [] follows ?_ | refine mx 5 [] follows ?_ | refine mx 4 [] follows ?_ | refine mx 3 [] follows ?_ | refine mx 2 [] follows ?_ | refine mx 1 [] follows ?_ | refine mx 0 [] follows ?_ | fail); (simp only [go_sem, int_bne])) | (first | refine cd (hc := hc) (hK := ?_) | refine cm (hc := hc) (hK := ?_) | refine ct (hc := hc) (hK := ?_)); (simp only [go_sem]) | (first | refine cd (hc := va) (hK := ?_) | refine cm (hc := va) (hK := ?_) | refine ct (hc := va) (hK := ?_)); (simp only [go_sem]) | (first | refine cd (hc := vb) (hK := ?_) | refine cm (hc := vb) (hK := ?_) | refine ct (hc := vb) (hK := ?_)); (simp only [go_sem]) | (first | refine cd (hc := h1) (hK := ?_) | refine cm (hc := h1) (hK := ?_) | refine ct (hc := h1) (hK := ?_)); (simp only [go_sem]) | ((first | refine kd [] (hc := hcl) (hK := ?_) | refine km [] (hc := hcl) (hK := ?_) | refine kt [] (hc := hcl) (hK := ?_)); rintro _ _ ⟨rfl, rfl⟩ <;> (simp only [go_sem])) | fail)
      all_goals (refine hR _ ?_; refine rat [] (hK := ⟨rfl, rfl⟩))
    · rw [ea] at va
      simp only []
      cases eb : b.val
      · rw [eb] at vb
        have h1 := ihb hw.2 hn.2 eb (by omega)
        simp only [stT] at h1
        simp only [SR.map_code, SR.map_lab]
        simp only [E.tm, nd] at hc ⊢
        refine fn_in ?_; refine acl_in Tryz.func113 rfl isfn_113 (Nat.le_of_ble_eq_true rfl) (fun R hR => ?_); rw [Tryz.results113] at hR; refine wg_run ?_; (simp only [Tryz.f113, go_sem])
        repeat' (first | (first | (simp only [go_sem, int_bne]) | (((first | refine sp1 ?_ ?_ | refine sp2 ?_ ?_ | refine sp3 ?_ ?_ | refine sp4 ?_ ?_ | refine sp5 ?_ ?_ | refine sp6 ?_ ?_ | refine sp7 ?_ ?_) <;> intro hb) <;> (simp only [go_sem, hb, int_bne])) | ((first | refine wm_done ?_ | refine wt_done ?_ | refine wg_run ?_ | refine fk ?_ ?_) <;> (simp only [go_sem, int_bne]))) | (first | (refine wl_next (wg_run ?_); (simp only [go_sem])) | refine wd_rounds 6 ?_) | ((first | refine mx 6 [] follows ?_ | refine mx 5 [] follows ?_ | refine mx 4 [] follows ?_ | refine mx 3 [] follows ?_ | refine mx 2 [] follows ?_ | refine mx 1 [] follows ?_ | refine mx 0 [] follows ?_ | fail); (simp only [go_sem, int_bne])) | (first | refine cd (hc := hc) (hK := ?_) | refine cm (hc := hc) (hK := ?_) | refine ct (hc := hc) (hK := ?_)); (simp only [go_sem]) | (first | refine cd (hc := va) (hK := ?_) | refine cm (hc := va) (hK := ?_) | refine ct (hc := va) (hK := ?_)); (simp only [go_sem]) | (first | refine cd (hc := vb) (hK := ?_) | refine cm (hc := vb) (hK := ?_) | refine ct (hc := vb) (hK := ?_)); (simp only [go_sem]) | (first | refine cd (hc := h1) (hK := ?_) | refine cm (hc := h1) (hK := ?_) | refine ct (hc := h1) (hK := ?_)); (simp only [go_sem]) | ((first | refine kd [] (hc := hcl) (hK := ?_) | refine km [] (hc := hcl) (hK := ?_) | refine kt [] (hc := hcl) (hK := ?_)); rintro _ _ ⟨rfl, rfl⟩ <;> (simp only [go_sem])) | fail)
        all_goals (refine hR _ ?_; refine rat [] (hK := ⟨rfl, rfl⟩))
      · simp [E.val, ea, eb] at hv
  | ite a b c iha ihb ihc =>
    intro hw hn hv hz
    have hc := iCounts (E.ite a b c).tm
    have hr := iRule (.ite a b c) hw
    have hcr := iCastRule (.ite a b c) hw hz (by simp [E.tm, nd, Tm.kids])
    have hred := red_ite a b c
    simp only [E.wf, E.noA, Bool.and_eq_true] at hw hn
    simp only [E.tm, nd, Tm.size, Tm.sizes] at hz
    have va := iIsVal 100000000 (by omega) a.tm (by omega)
    rw [E.val_tm] at va
    have hcl := cloneT a.tm [b.tm, c.tm] (by simp)
    simp only [stT, E.so, E.step]
    cases ea : a.val
    · rw [ea] at va
      have h1 := iha hw.1 hn.1 ea (by omega)
      simp only [stT] at h1
      simp only [SR.map_code, SR.map_lab]
      simp only [E.tm, nd] at hc ⊢
      refine fn_in ?_; refine acl_in Tryz.func113 rfl isfn_113 (Nat.le_of_ble_eq_true rfl) (fun R hR => ?_); rw [Tryz.results113] at hR; refine wg_run ?_; (simp only [Tryz.f113, go_sem])
      repeat' (first | (first | (simp only [go_sem, int_bne]) | (((first | refine sp1 ?_ ?_ | refine sp2 ?_ ?_ | refine sp3 ?_ ?_ | refine sp4 ?_ ?_ | refine sp5 ?_ ?_ | refine sp6 ?_ ?_ | refine sp7 ?_ ?_) <;> intro hb) <;> (simp only [go_sem, hb, int_bne])) | ((first | refine wm_done ?_ | refine wt_done ?_ | refine wg_run ?_ | refine fk ?_ ?_) <;> (simp only [go_sem, int_bne]))) | (first | (refine wl_next (wg_run ?_); (simp only [go_sem])) | refine wd_rounds 6 ?_) | ((first | refine mx 6 [] follows ?_ | refine mx 5 [] follows ?_ | refine mx 4 [] follows ?_ | refine mx 3 [] follows ?_ | refine mx 2 [] follows ?_ | refine mx 1 [] follows ?_ | refine mx 0 [] follows ?_ | fail); (simp only [go_sem, int_bne])) | (first | refine cd (hc := hc) (hK := ?_) | refine cm (hc := hc) (hK := ?_) | refine ct (hc := hc) (hK := ?_)); (simp only [go_sem]) | (first | refine cd (hc := va) (hK := ?_) | refine cm (hc := va) (hK := ?_) | refine ct (hc := va) (hK := ?_)); (simp only [go_sem]) | (first | refine cd (hc := h1) (hK := ?_) | refine cm (hc := h1) (hK := ?_) | refine ct (hc := h1) (hK := ?_)); (simp only [go_sem]) | ((first | refine kd [] (hc := hcl) (hK := ?_) | refine km [] (hc := hcl) (hK := ?_) | refine kt [] (hc := hcl) (hK := ?_)); rintro _ _ ⟨rfl, rfl⟩ <;> (simp only [go_sem])) | fail)
      all_goals (refine hR _ ?_; refine rat [] (hK := ⟨rfl, rfl⟩))
    · rw [ea] at va
      simp only []
      rcases red_cases (.ite a b c) with ⟨x, e1, e2⟩ | ⟨e1, e2⟩
      all_goals
        rw [e2] at hred
        rw [← hred]
        rw [e1] at hr
        simp only [ruT, srT, SR.tm, SR.code, SR.lab] at hr hcr ⊢
        simp only [E.tm, nd] at hc hr hcr ⊢
        refine fn_in ?_; refine acl_in Tryz.func113 rfl isfn_113 (Nat.le_of_ble_eq_true rfl) (fun R hR => ?_); rw [Tryz.results113] at hR; refine wg_run ?_; (simp only [Tryz.f113, go_sem])
        repeat' (first | (first | (simp only [go_sem, int_bne]) | (((first | refine sp1 ?_ ?_ | refine sp2 ?_ ?_ | refine sp3 ?_ ?_ | refine sp4 ?_ ?_ | refine sp5 ?_ ?_ | refine sp6 ?_ ?_ | refine sp7 ?_ ?_) <;> intro hb) <;> (simp only [go_sem, hb, int_bne])) | ((first | refine wm_done ?_ | refine wt_done ?_ | refine wg_run ?_ | refine fk ?_ ?_) <;> (simp only [go_sem, int_bne]))) | (first | (refine wl_next (wg_run ?_); (simp only [go_sem])) | refine wd_rounds 6 ?_) | ((first | refine mx 6 [] follows ?_ | refine mx 5 [] follows ?_ | refine mx 4 [] follows ?_ | refine mx 3 [] follows ?_ | refine mx 2 [] follows ?_ | refine mx 1 [] follows ?_ | refine mx 0 [] follows ?_ | fail); (simp only [go_sem, int_bne])) | (first | refine cd (hc := hc) (hK := ?_) | refine cm (hc := hc) (hK := ?_) | refine ct (hc := hc) (hK := ?_)); (simp only [go_sem]) | (first | refine cd (hc := va) (hK := ?_) | refine cm (hc := va) (hK := ?_) | refine ct (hc := va) (hK := ?_)); (simp only [go_sem]) | (first | refine cd (hc := hr) (hK := ?_) | refine cm (hc := hr) (hK := ?_) | refine ct (hc := hr) (hK := ?_)); (simp only [go_sem]) | (first | refine cd (hc := hcr) (hK := ?_) | refine cm (hc := hcr) (hK := ?_) | refine ct (hc := hcr) (hK := ?_)); (simp only [go_sem]) | fail)
        all_goals (refine hR _ ?_; refine rat [] (hK := ⟨rfl, rfl⟩))
  | fst a iha =>
    intro hw hn hv hz
    have hc := iCounts (E.fst a).tm
    have hr := iRule (.fst a) hw
    have hcr := iCastRule (.fst a) hw hz (by simp [E.tm, nd, Tm.kids])
    have hred := red_fst a
    simp only [E.wf, E.noA, Bool.and_eq_true] at hw hn
    simp only [E.tm, nd, Tm.size, Tm.sizes] at hz
    have va := iIsVal 100000000 (by omega) a.tm (by omega)
    rw [E.val_tm] at va
    have hcl := cloneT a.tm [] (by simp)
    simp only [stT, E.so, E.step]
    cases ea : a.val
    · rw [ea] at va
      have h1 := iha hw hn ea (by omega)
      simp only [stT] at h1
      simp only [SR.map_code, SR.map_lab]
      simp only [E.tm, nd] at hc ⊢
      refine fn_in ?_; refine acl_in Tryz.func113 rfl isfn_113 (Nat.le_of_ble_eq_true rfl) (fun R hR => ?_); rw [Tryz.results113] at hR; refine wg_run ?_; (simp only [Tryz.f113, go_sem])
      repeat' (first | (first | (simp only [go_sem, int_bne]) | (((first | refine sp1 ?_ ?_ | refine sp2 ?_ ?_ | refine sp3 ?_ ?_ | refine sp4 ?_ ?_ | refine sp5 ?_ ?_ | refine sp6 ?_ ?_ | refine sp7 ?_ ?_) <;> intro hb) <;> (simp only [go_sem, hb, int_bne])) | ((first | refine wm_done ?_ | refine wt_done ?_ | refine wg_run ?_ | refine fk ?_ ?_) <;> (simp only [go_sem, int_bne]))) | (first | (refine wl_next (wg_run ?_); (simp only [go_sem])) | refine wd_rounds 6 ?_) | ((first | refine mx 6 [] follows ?_ | refine mx 5 [] follows ?_ | refine mx 4 [] follows ?_ | refine mx 3 [] follows ?_ | refine mx 2 [] follows ?_ | refine mx 1 [] follows ?_ | refine mx 0 [] follows ?_ | fail); (simp only [go_sem, int_bne])) | (first | refine cd (hc := hc) (hK := ?_) | refine cm (hc := hc) (hK := ?_) | refine ct (hc := hc) (hK := ?_)); (simp only [go_sem]) | (first | refine cd (hc := va) (hK := ?_) | refine cm (hc := va) (hK := ?_) | refine ct (hc := va) (hK := ?_)); (simp only [go_sem]) | (first | refine cd (hc := h1) (hK := ?_) | refine cm (hc := h1) (hK := ?_) | refine ct (hc := h1) (hK := ?_)); (simp only [go_sem]) | ((first | refine kd [] (hc := hcl) (hK := ?_) | refine km [] (hc := hcl) (hK := ?_) | refine kt [] (hc := hcl) (hK := ?_)); rintro _ _ ⟨rfl, rfl⟩ <;> (simp only [go_sem])) | fail)
      all_goals (refine hR _ ?_; refine rat [] (hK := ⟨rfl, rfl⟩))
    · rw [ea] at va
      simp only []
      rcases red_cases (.fst a) with ⟨x, e1, e2⟩ | ⟨e1, e2⟩
      all_goals
        rw [e2] at hred
        rw [← hred]
        rw [e1] at hr
        simp only [ruT, srT, SR.tm, SR.code, SR.lab] at hr hcr ⊢
        simp only [E.tm, nd] at hc hr hcr ⊢
        refine fn_in ?_; refine acl_in Tryz.func113 rfl isfn_113 (Nat.le_of_ble_eq_true rfl) (fun R hR => ?_); rw [Tryz.results113] at hR; refine wg_run ?_; (simp only [Tryz.f113, go_sem])
        repeat' (first | (first | (simp only [go_sem, int_bne]) | (((first | refine sp1 ?_ ?_ | refine sp2 ?_ ?_ | refine sp3 ?_ ?_ | refine sp4 ?_ ?_ | refine sp5 ?_ ?_ | refine sp6 ?_ ?_ | refine sp7 ?_ ?_) <;> intro hb) <;> (simp only [go_sem, hb, int_bne])) | ((first | refine wm_done ?_ | refine wt_done ?_ | refine wg_run ?_ | refine fk ?_ ?_) <;> (simp only [go_sem, int_bne]))) | (first | (refine wl_next (wg_run ?_); (simp only [go_sem])) | refine wd_rounds 6 ?_) | ((first | refine mx 6 [] follows ?_ | refine mx 5 [] follows ?_ | refine mx 4 [] follows ?_ | refine mx 3 [] follows ?_ | refine mx 2 [] follows ?_ | refine mx 1 [] follows ?_ | refine mx 0 [] follows ?_ | fail); (simp only [go_sem, int_bne])) | (first | refine cd (hc := hc) (hK := ?_) | refine cm (hc := hc) (hK := ?_) | refine ct (hc := hc) (hK := ?_)); (simp only [go_sem]) | (first | refine cd (hc := va) (hK := ?_) | refine cm (hc := va) (hK := ?_) | refine ct (hc := va) (hK := ?_)); (simp only [go_sem]) | (first | refine cd (hc := hr) (hK := ?_) | refine cm (hc := hr) (hK := ?_) | refine ct (hc := hr) (hK := ?_)); (simp only [go_sem]) | (first | refine cd (hc := hcr) (hK := ?_) | refine cm (hc := hcr) (hK := ?_) | refine ct (hc := hcr) (hK := ?_)); (simp only [go_sem]) | fail)
        all_goals (refine hR _ ?_; refine rat [] (hK := ⟨rfl, rfl⟩))
  | snd a iha =>
    intro hw hn hv hz
    have hc := iCounts (E.snd a).tm
    have hr := iRule (.snd a) hw
    have hcr := iCastRule (.snd a) hw hz (by simp [E.tm, nd, Tm.kids])
    have hred := red_snd a
    simp only [E.wf, E.noA, Bool.and_eq_true] at hw hn
    simp only [E.tm, nd, Tm.size, Tm.sizes] at hz
    have va := iIsVal 100000000 (by omega) a.tm (by omega)
    rw [E.val_tm] at va
    have hcl := cloneT a.tm [] (by simp)
    simp only [stT, E.so, E.step]
    cases ea : a.val
    · rw [ea] at va
      have h1 := iha hw hn ea (by omega)
      simp only [stT] at h1
      simp only [SR.map_code, SR.map_lab]
      simp only [E.tm, nd] at hc ⊢
      refine fn_in ?_; refine acl_in Tryz.func113 rfl isfn_113 (Nat.le_of_ble_eq_true rfl) (fun R hR => ?_); rw [Tryz.results113] at hR; refine wg_run ?_; (simp only [Tryz.f113, go_sem])
      repeat' (first | (first | (simp only [go_sem, int_bne]) | (((first | refine sp1 ?_ ?_ | refine sp2 ?_ ?_ | refine sp3 ?_ ?_ | refine sp4 ?_ ?_ | refine sp5 ?_ ?_ | refine sp6 ?_ ?_ | refine sp7 ?_ ?_) <;> intro hb) <;> (simp only [go_sem, hb, int_bne])) | ((first | refine wm_done ?_ | refine wt_done ?_ | refine wg_run ?_ | refine fk ?_ ?_) <;> (simp only [go_sem, int_bne]))) | (first | (refine wl_next (wg_run ?_); (simp only [go_sem])) | refine wd_rounds 6 ?_) | ((first | refine mx 6 [] follows ?_ | refine mx 5 [] follows ?_ | refine mx 4 [] follows ?_ | refine mx 3 [] follows ?_ | refine mx 2 [] follows ?_ | refine mx 1 [] follows ?_ | refine mx 0 [] follows ?_ | fail); (simp only [go_sem, int_bne])) | (first | refine cd (hc := hc) (hK := ?_) | refine cm (hc := hc) (hK := ?_) | refine ct (hc := hc) (hK := ?_)); (simp only [go_sem]) | (first | refine cd (hc := va) (hK := ?_) | refine cm (hc := va) (hK := ?_) | refine ct (hc := va) (hK := ?_)); (simp only [go_sem]) | (first | refine cd (hc := h1) (hK := ?_) | refine cm (hc := h1) (hK := ?_) | refine ct (hc := h1) (hK := ?_)); (simp only [go_sem]) | ((first | refine kd [] (hc := hcl) (hK := ?_) | refine km [] (hc := hcl) (hK := ?_) | refine kt [] (hc := hcl) (hK := ?_)); rintro _ _ ⟨rfl, rfl⟩ <;> (simp only [go_sem])) | fail)
      all_goals (refine hR _ ?_; refine rat [] (hK := ⟨rfl, rfl⟩))
    · rw [ea] at va
      simp only []
      rcases red_cases (.snd a) with ⟨x, e1, e2⟩ | ⟨e1, e2⟩
      all_goals
        rw [e2] at hred
        rw [← hred]
        rw [e1] at hr
        simp only [ruT, srT, SR.tm, SR.code, SR.lab] at hr hcr ⊢
        simp only [E.tm, nd] at hc hr hcr ⊢
        refine fn_in ?_; refine acl_in Tryz.func113 rfl isfn_113 (Nat.le_of_ble_eq_true rfl) (fun R hR => ?_); rw [Tryz.results113] at hR; refine wg_run ?_; (simp only [Tryz.f113, go_sem])
        repeat' (first | (first | (simp only [go_sem, int_bne]) | (((first | refine sp1 ?_ ?_ | refine sp2 ?_ ?_ | refine sp3 ?_ ?_ | refine sp4 ?_ ?_ | refine sp5 ?_ ?_ | refine sp6 ?_ ?_ | refine sp7 ?_ ?_) <;> intro hb) <;> (simp only [go_sem, hb, int_bne])) | ((first | refine wm_done ?_ | refine wt_done ?_ | refine wg_run ?_ | refine fk ?_ ?_) <;> (simp only [go_sem, int_bne]))) | (first | (refine wl_next (wg_run ?_); (simp only [go_sem])) | refine wd_rounds 6 ?_) | ((first | refine mx 6 [] follows ?_ | refine mx 5 [] follows ?_ | refine mx 4 [] follows ?_ | refine mx 3 [] follows ?_ | refine mx 2 [] follows ?_ | refine mx 1 [] follows ?_ | refine mx 0 [] follows ?_ | fail); (simp only [go_sem, int_bne])) | (first | refine cd (hc := hc) (hK := ?_) | refine cm (hc := hc) (hK := ?_) | refine ct (hc := hc) (hK := ?_)); (simp only [go_sem]) | (first | refine cd (hc := va) (hK := ?_) | refine cm (hc := va) (hK := ?_) | refine ct (hc := va) (hK := ?_)); (simp only [go_sem]) | (first | refine cd (hc := hr) (hK := ?_) | refine cm (hc := hr) (hK := ?_) | refine ct (hc := hr) (hK := ?_)); (simp only [go_sem]) | (first | refine cd (hc := hcr) (hK := ?_) | refine cm (hc := hcr) (hK := ?_) | refine ct (hc := hcr) (hK := ?_)); (simp only [go_sem]) | fail)
        all_goals (refine hR _ ?_; refine rat [] (hK := ⟨rfl, rfl⟩))
  | cast s t l a iha =>
    intro hw hn hv hz
    have hc := iCounts (E.cast s t l a).tm
    have hr := iRule (.cast s t l a) hw
    have hcr := iCastRule (.cast s t l a) hw hz (by simp [E.tm, nd, Tm.kids])
    have hred := red_cast s t l a
    simp only [E.wf, E.noA, Bool.and_eq_true] at hw hn
    simp only [E.tm, nd, Tm.size, Tm.sizes] at hz
    have va := iIsVal 100000000 (by omega) a.tm (by omega)
    rw [E.val_tm] at va
    have hcl := cloneT a.tm [] (by simp)
    simp only [stT, E.so, E.step]
    cases ea : a.val
    · rw [ea] at va
      have h1 := iha hw.2.2.2 hn ea (by omega)
      simp only [stT] at h1
      simp only [SR.map_code, SR.map_lab]
      simp only [E.tm, nd] at hc ⊢
      refine fn_in ?_; refine acl_in Tryz.func113 rfl isfn_113 (Nat.le_of_ble_eq_true rfl) (fun R hR => ?_); rw [Tryz.results113] at hR; refine wg_run ?_; (simp only [Tryz.f113, go_sem])
      repeat' (first | (first | (simp only [go_sem, int_bne]) | (((first | refine sp1 ?_ ?_ | refine sp2 ?_ ?_ | refine sp3 ?_ ?_ | refine sp4 ?_ ?_ | refine sp5 ?_ ?_ | refine sp6 ?_ ?_ | refine sp7 ?_ ?_) <;> intro hb) <;> (simp only [go_sem, hb, int_bne])) | ((first | refine wm_done ?_ | refine wt_done ?_ | refine wg_run ?_ | refine fk ?_ ?_) <;> (simp only [go_sem, int_bne]))) | (first | (refine wl_next (wg_run ?_); (simp only [go_sem])) | refine wd_rounds 6 ?_) | ((first | refine mx 6 [] follows ?_ | refine mx 5 [] follows ?_ | refine mx 4 [] follows ?_ | refine mx 3 [] follows ?_ | refine mx 2 [] follows ?_ | refine mx 1 [] follows ?_ | refine mx 0 [] follows ?_ | fail); (simp only [go_sem, int_bne])) | (first | refine cd (hc := hc) (hK := ?_) | refine cm (hc := hc) (hK := ?_) | refine ct (hc := hc) (hK := ?_)); (simp only [go_sem]) | (first | refine cd (hc := va) (hK := ?_) | refine cm (hc := va) (hK := ?_) | refine ct (hc := va) (hK := ?_)); (simp only [go_sem]) | (first | refine cd (hc := h1) (hK := ?_) | refine cm (hc := h1) (hK := ?_) | refine ct (hc := h1) (hK := ?_)); (simp only [go_sem]) | ((first | refine kd [] (hc := hcl) (hK := ?_) | refine km [] (hc := hcl) (hK := ?_) | refine kt [] (hc := hcl) (hK := ?_)); rintro _ _ ⟨rfl, rfl⟩ <;> (simp only [go_sem])) | fail)
      all_goals (refine hR _ ?_; refine rat [] (hK := ⟨rfl, rfl⟩))
    · rw [ea] at va
      simp only []
      rcases red_cases (.cast s t l a) with ⟨x, e1, e2⟩ | ⟨e1, e2⟩
      all_goals
        rw [e2] at hred
        rw [← hred]
        rw [e1] at hr
        simp only [ruT, srT, SR.tm, SR.code, SR.lab] at hr hcr ⊢
        simp only [E.tm, nd] at hc hr hcr ⊢
        refine fn_in ?_; refine acl_in Tryz.func113 rfl isfn_113 (Nat.le_of_ble_eq_true rfl) (fun R hR => ?_); rw [Tryz.results113] at hR; refine wg_run ?_; (simp only [Tryz.f113, go_sem])
        repeat' (first | (first | (simp only [go_sem, int_bne]) | (((first | refine sp1 ?_ ?_ | refine sp2 ?_ ?_ | refine sp3 ?_ ?_ | refine sp4 ?_ ?_ | refine sp5 ?_ ?_ | refine sp6 ?_ ?_ | refine sp7 ?_ ?_) <;> intro hb) <;> (simp only [go_sem, hb, int_bne])) | ((first | refine wm_done ?_ | refine wt_done ?_ | refine wg_run ?_ | refine fk ?_ ?_) <;> (simp only [go_sem, int_bne]))) | (first | (refine wl_next (wg_run ?_); (simp only [go_sem])) | refine wd_rounds 6 ?_) | ((first | refine mx 6 [] follows ?_ | refine mx 5 [] follows ?_ | refine mx 4 [] follows ?_ | refine mx 3 [] follows ?_ | refine mx 2 [] follows ?_ | refine mx 1 [] follows ?_ | refine mx 0 [] follows ?_ | fail); (simp only [go_sem, int_bne])) | (first | refine cd (hc := hc) (hK := ?_) | refine cm (hc := hc) (hK := ?_) | refine ct (hc := hc) (hK := ?_)); (simp only [go_sem]) | (first | refine cd (hc := va) (hK := ?_) | refine cm (hc := va) (hK := ?_) | refine ct (hc := va) (hK := ?_)); (simp only [go_sem]) | (first | refine cd (hc := hr) (hK := ?_) | refine cm (hc := hr) (hK := ?_) | refine ct (hc := hr) (hK := ?_)); (simp only [go_sem]) | (first | refine cd (hc := hcr) (hK := ?_) | refine cm (hc := hcr) (hK := ?_) | refine ct (hc := hcr) (hK := ?_)); (simp only [go_sem]) | fail)
        all_goals (refine hR _ ?_; refine rat [] (hK := ⟨rfl, rfl⟩))
  | var x =>
    intro hw hn hv hz
    have hc := iCounts (E.var x).tm
    have hr := iRule (.var x) hw
    simp only [stT, E.so, E.step, E.ruleI, ruT, SR.code, SR.lab] at hr ⊢
    simp only [E.tm, nd] at hc hr ⊢
    refine fn_in ?_; refine acl_in Tryz.func113 rfl isfn_113 (Nat.le_of_ble_eq_true rfl) (fun R hR => ?_); rw [Tryz.results113] at hR; refine wg_run ?_; (simp only [Tryz.f113, go_sem])
    repeat' (first | (first | (simp only [go_sem, int_bne]) | (((first | refine sp1 ?_ ?_ | refine sp2 ?_ ?_ | refine sp3 ?_ ?_ | refine sp4 ?_ ?_ | refine sp5 ?_ ?_ | refine sp6 ?_ ?_ | refine sp7 ?_ ?_) <;> intro hb) <;> (simp only [go_sem, hb, int_bne])) | ((first | refine wm_done ?_ | refine wt_done ?_ | refine wg_run ?_ | refine fk ?_ ?_) <;> (simp only [go_sem, int_bne]))) | (first | (refine wl_next (wg_run ?_); (simp only [go_sem])) | refine wd_rounds 6 ?_) | ((first | refine mx 6 [] follows ?_ | refine mx 5 [] follows ?_ | refine mx 4 [] follows ?_ | refine mx 3 [] follows ?_ | refine mx 2 [] follows ?_ | refine mx 1 [] follows ?_ | refine mx 0 [] follows ?_ | fail); (simp only [go_sem, int_bne])) | (first | refine cd (hc := hc) (hK := ?_) | refine cm (hc := hc) (hK := ?_) | refine ct (hc := hc) (hK := ?_)); (simp only [go_sem]) | (first | refine cd (hc := hr) (hK := ?_) | refine cm (hc := hr) (hK := ?_) | refine ct (hc := hr) (hK := ?_)); (simp only [go_sem]) | fail)
    all_goals (refine hR _ ?_; refine rat [] (hK := ⟨rfl, rfl⟩))
  | num _ | tru | fls => intro _ _ hv; simp [E.val] at hv
  | lam _ _ a ih => intro _ _ hv; simp [E.val] at hv
  | asc _ _ _ => intro _ hn; simp [E.noA] at hn
end Go.Proofs.YtnaebafafhamjaaGreat
/- Steps of terms with casts: substitution, in the reference. On shadows. -/
namespace Go.Proofs.YtnaebafafhamjaaGreat
open Go.RowKit Go.Proofs.Sh Go.Proofs.Grad
set_option maxRecDepth 100000
set_option maxHeartbeats 8000000
theorem sSubst (x : UInt8) (v : E) (hv : v.tm.size < 100000000) (e : E) : e.wf = true → e.tm.size < 100000000 → AFn Tryz.prog 203 [.agg (teC e.tm), .one (.sc (.string (nm x))), .agg (teC v.tm)] (.agg (teC (e.subst x v).tm)) := by
  have hvc := l2Copy 274877906944 (by omega) v.tm (by omega)
  have hno : AFn Tryz.prog 119 [.agg (tyC noTy)] (.agg (tyC noTy)) := l1Copy 1000 (by omega) noTy (by simp [noTy, Ty.size, Ty.sizes])
  induction e with
  | var y =>
    intro hw hz
    have hn := nm_beq y x
    simp only [E.subst]
    cases e1 : (y == x)
    all_goals
      rw [e1] at hn
      simp only [E.tm]
      refine fn_in ?_; refine acl_in Tryz.func203 rfl isfn_203 (Nat.le_of_ble_eq_true rfl) (fun R hR => ?_); rw [Tryz.results203] at hR; refine wg_run ?_; (simp only [Tryz.f203, go_sem, hn])
      repeat' (first | (first | (simp only [go_sem, hn]) | (((first | refine sp1 ?_ ?_ | refine sp2 ?_ ?_ | refine sp3 ?_ ?_ | refine sp4 ?_ ?_ | refine sp5 ?_ ?_ | refine sp6 ?_ ?_ | refine sp7 ?_ ?_) <;> intro hb) <;> (simp only [go_sem, hb, hn])) | ((first | refine wm_done ?_ | refine wt_done ?_ | refine wg_run ?_ | refine fk ?_ ?_) <;> (simp only [go_sem, hn]))) | (first | (refine wl_next (wg_run ?_); (simp only [go_sem])) | refine wd_rounds 6 ?_) | (first | refine cd (hc := hvc) (hK := ?_) | refine cm (hc := hvc) (hK := ?_) | refine ct (hc := hvc) (hK := ?_)); (simp only [go_sem]) | (first | refine cd (hc := hno) (hK := ?_) | refine cm (hc := hno) (hK := ?_) | refine ct (hc := hno) (hK := ?_)); (simp only [go_sem]) | ((first | refine mx 6 [] follows ?_ | refine mx 5 [] follows ?_ | refine mx 4 [] follows ?_ | refine mx 3 [] follows ?_ | refine mx 2 [] follows ?_ | refine mx 1 [] follows ?_ | refine mx 0 [] follows ?_ | fail); (simp only [go_sem, hn])) | fail)
      (refine hR _ ?_; refine rat [] (hK := ⟨rfl, rfl⟩))
  | lam y t a ih =>
    intro hw hz
    have hn := nm_beq y x
    have hec := l2Copy 274877906944 (by omega) (E.lam y t a).tm (by omega)
    simp only [E.wf, Bool.and_eq_true, decide_eq_true_eq] at hw
    simp only [E.tm, nd, Tm.size, Tm.sizes] at hz
    have ih := ih hw.2.2 (by omega)
    have ht := l1Copy 1000 (by omega) t.ty (T.ty_small hw.2.1)
    simp only [E.subst]
    cases e1 : (y == x)
    all_goals
      rw [e1] at hn
      simp only [E.tm] at hec ⊢
      refine fn_in ?_; refine acl_in Tryz.func203 rfl isfn_203 (Nat.le_of_ble_eq_true rfl) (fun R hR => ?_); rw [Tryz.results203] at hR; refine wg_run ?_; (simp only [Tryz.f203, go_sem, hn])
      repeat' (first | (first | (simp only [go_sem, hn]) | (((first | refine sp1 ?_ ?_ | refine sp2 ?_ ?_ | refine sp3 ?_ ?_ | refine sp4 ?_ ?_ | refine sp5 ?_ ?_ | refine sp6 ?_ ?_ | refine sp7 ?_ ?_) <;> intro hb) <;> (simp only [go_sem, hb, hn])) | ((first | refine wm_done ?_ | refine wt_done ?_ | refine wg_run ?_ | refine fk ?_ ?_) <;> (simp only [go_sem, hn]))) | (first | (refine wl_next (wg_run ?_); (simp only [go_sem])) | refine wd_rounds 6 ?_) | (first | refine cd (hc := hec) (hK := ?_) | refine cm (hc := hec) (hK := ?_) | refine ct (hc := hec) (hK := ?_)); (simp only [go_sem]) | (first | refine cd (hc := ht) (hK := ?_) | refine cm (hc := ht) (hK := ?_) | refine ct (hc := ht) (hK := ?_)); (simp only [go_sem]) | (first | refine cd (hc := hno) (hK := ?_) | refine cm (hc := hno) (hK := ?_) | refine ct (hc := hno) (hK := ?_)); (simp only [go_sem]) | (first | refine cd (hc := ih) (hK := ?_) | refine cm (hc := ih) (hK := ?_) | refine ct (hc := ih) (hK := ?_)); (simp only [go_sem]) | ((first | refine mx 6 [] follows ?_ | refine mx 5 [] follows ?_ | refine mx 4 [] follows ?_ | refine mx 3 [] follows ?_ | refine mx 2 [] follows ?_ | refine mx 1 [] follows ?_ | refine mx 0 [] follows ?_ | fail); (simp only [go_sem, hn])) | fail)
      (refine hR _ ?_; refine rat [] (hK := ⟨rfl, rfl⟩))
  | num _ | tru | fls =>
    intro hw hz
    simp only [E.subst, E.tm, nd]
    refine fn_in ?_; refine acl_in Tryz.func203 rfl isfn_203 (Nat.le_of_ble_eq_true rfl) (fun R hR => ?_); rw [Tryz.results203] at hR; refine wg_run ?_; (simp only [Tryz.f203, go_sem])
    repeat' (first | (first | (((first | refine sp1 ?_ ?_ | refine sp2 ?_ ?_ | refine sp3 ?_ ?_ | refine sp4 ?_ ?_ | refine sp5 ?_ ?_ | refine sp6 ?_ ?_ | refine sp7 ?_ ?_) <;> intro hb) <;> (simp only [go_sem, hb])) | ((first | refine wm_done ?_ | refine wt_done ?_ | refine wg_run ?_ | refine fk ?_ ?_) <;> (simp only [go_sem]))) | (first | (refine wl_next (wg_run ?_); (simp only [go_sem])) | refine wd_rounds 6 ?_) | (first | refine cd (hc := hno) (hK := ?_) | refine cm (hc := hno) (hK := ?_) | refine ct (hc := hno) (hK := ?_)); (simp only [go_sem]) | fail)
    (refine hR _ ?_; refine rat [] (hK := ⟨rfl, rfl⟩))
  | app a b iha ihb | add a b iha ihb | less a b iha ihb | pair a b iha ihb =>
    intro hw hz
    simp only [E.wf, Bool.and_eq_true] at hw
    simp only [E.tm, nd, Tm.size, Tm.sizes] at hz
    have iha := iha hw.1 (by omega)
    have ihb := ihb hw.2 (by omega)
    simp only [E.subst, E.tm, nd]
    refine fn_in ?_; refine acl_in Tryz.func203 rfl isfn_203 (Nat.le_of_ble_eq_true rfl) (fun R hR => ?_); rw [Tryz.results203] at hR; refine wg_run ?_; (simp only [Tryz.f203, go_sem])
    repeat' (first | (first | (((first | refine sp1 ?_ ?_ | refine sp2 ?_ ?_ | refine sp3 ?_ ?_ | refine sp4 ?_ ?_ | refine sp5 ?_ ?_ | refine sp6 ?_ ?_ | refine sp7 ?_ ?_) <;> intro hb) <;> (simp only [go_sem, hb])) | ((first | refine wm_done ?_ | refine wt_done ?_ | refine wg_run ?_ | refine fk ?_ ?_) <;> (simp only [go_sem]))) | (first | (refine wl_next (wg_run ?_); (simp only [go_sem])) | refine wd_rounds 6 ?_) | (first | refine cd (hc := hno) (hK := ?_) | refine cm (hc := hno) (hK := ?_) | refine ct (hc := hno) (hK := ?_)); (simp only [go_sem]) | (first | refine cd (hc := iha) (hK := ?_) | refine cm (hc := iha) (hK := ?_) | refine ct (hc := iha) (hK := ?_)); (simp only [go_sem]) | (first | refine cd (hc := ihb) (hK := ?_) | refine cm (hc := ihb) (hK := ?_) | refine ct (hc := ihb) (hK := ?_)); (simp only [go_sem]) | ((first | refine mx 6 [] follows ?_ | refine mx 5 [] follows ?_ | refine mx 4 [] follows ?_ | refine mx 3 [] follows ?_ | refine mx 2 [] follows ?_ | refine mx 1 [] follows ?_ | refine mx 0 [] follows ?_ | fail); (simp only [go_sem])) | fail)
    (refine hR _ ?_; refine rat [] (hK := ⟨rfl, rfl⟩))
  | ite a b c iha ihb ihc =>
    intro hw hz
    simp only [E.wf, Bool.and_eq_true] at hw
    simp only [E.tm, nd, Tm.size, Tm.sizes] at hz
    have iha := iha hw.1 (by omega)
    have ihb := ihb hw.2.1 (by omega)
    have ihc := ihc hw.2.2 (by omega)
    simp only [E.subst, E.tm, nd]
    refine fn_in ?_; refine acl_in Tryz.func203 rfl isfn_203 (Nat.le_of_ble_eq_true rfl) (fun R hR => ?_); rw [Tryz.results203] at hR; refine wg_run ?_; (simp only [Tryz.f203, go_sem])
    repeat' (first | (first | (((first | refine sp1 ?_ ?_ | refine sp2 ?_ ?_ | refine sp3 ?_ ?_ | refine sp4 ?_ ?_ | refine sp5 ?_ ?_ | refine sp6 ?_ ?_ | refine sp7 ?_ ?_) <;> intro hb) <;> (simp only [go_sem, hb])) | ((first | refine wm_done ?_ | refine wt_done ?_ | refine wg_run ?_ | refine fk ?_ ?_) <;> (simp only [go_sem]))) | (first | (refine wl_next (wg_run ?_); (simp only [go_sem])) | refine wd_rounds 6 ?_) | (first | refine cd (hc := hno) (hK := ?_) | refine cm (hc := hno) (hK := ?_) | refine ct (hc := hno) (hK := ?_)); (simp only [go_sem]) | (first | refine cd (hc := iha) (hK := ?_) | refine cm (hc := iha) (hK := ?_) | refine ct (hc := iha) (hK := ?_)); (simp only [go_sem]) | (first | refine cd (hc := ihb) (hK := ?_) | refine cm (hc := ihb) (hK := ?_) | refine ct (hc := ihb) (hK := ?_)); (simp only [go_sem]) | (first | refine cd (hc := ihc) (hK := ?_) | refine cm (hc := ihc) (hK := ?_) | refine ct (hc := ihc) (hK := ?_)); (simp only [go_sem]) | ((first | refine mx 6 [] follows ?_ | refine mx 5 [] follows ?_ | refine mx 4 [] follows ?_ | refine mx 3 [] follows ?_ | refine mx 2 [] follows ?_ | refine mx 1 [] follows ?_ | refine mx 0 [] follows ?_ | fail); (simp only [go_sem])) | fail)
    (refine hR _ ?_; refine rat [] (hK := ⟨rfl, rfl⟩))
  | fst a ih | snd a ih =>
    intro hw hz
    simp only [E.wf] at hw
    simp only [E.tm, nd, Tm.size, Tm.sizes] at hz
    have ih := ih hw (by omega)
    simp only [E.subst, E.tm, nd]
    refine fn_in ?_; refine acl_in Tryz.func203 rfl isfn_203 (Nat.le_of_ble_eq_true rfl) (fun R hR => ?_); rw [Tryz.results203] at hR; refine wg_run ?_; (simp only [Tryz.f203, go_sem])
    repeat' (first | (first | (((first | refine sp1 ?_ ?_ | refine sp2 ?_ ?_ | refine sp3 ?_ ?_ | refine sp4 ?_ ?_ | refine sp5 ?_ ?_ | refine sp6 ?_ ?_ | refine sp7 ?_ ?_) <;> intro hb) <;> (simp only [go_sem, hb])) | ((first | refine wm_done ?_ | refine wt_done ?_ | refine wg_run ?_ | refine fk ?_ ?_) <;> (simp only [go_sem]))) | (first | (refine wl_next (wg_run ?_); (simp only [go_sem])) | refine wd_rounds 6 ?_) | (first | refine cd (hc := hno) (hK := ?_) | refine cm (hc := hno) (hK := ?_) | refine ct (hc := hno) (hK := ?_)); (simp only [go_sem]) | (first | refine cd (hc := ih) (hK := ?_) | refine cm (hc := ih) (hK := ?_) | refine ct (hc := ih) (hK := ?_)); (simp only [go_sem]) | ((first | refine mx 6 [] follows ?_ | refine mx 5 [] follows ?_ | refine mx 4 [] follows ?_ | refine mx 3 [] follows ?_ | refine mx 2 [] follows ?_ | refine mx 1 [] follows ?_ | refine mx 0 [] follows ?_ | fail); (simp only [go_sem])) | fail)
    (refine hR _ ?_; refine rat [] (hK := ⟨rfl, rfl⟩))
  | cast s t l a ih =>
    intro hw hz
    simp only [E.wf, Bool.and_eq_true, decide_eq_true_eq] at hw
    simp only [E.tm, nd, Tm.size, Tm.sizes] at hz
    have ih := ih hw.2.2.2 (by omega)
    have ht := l1Copy 1000 (by omega) t.ty (T.ty_small hw.1.2)
    have hs := l1Copy 1000 (by omega) s.ty (T.ty_small hw.1.1)
    simp only [E.subst, E.tm, nd]
    refine fn_in ?_; refine acl_in Tryz.func203 rfl isfn_203 (Nat.le_of_ble_eq_true rfl) (fun R hR => ?_); rw [Tryz.results203] at hR; refine wg_run ?_; (simp only [Tryz.f203, go_sem])
    repeat' (first | (first | (((first | refine sp1 ?_ ?_ | refine sp2 ?_ ?_ | refine sp3 ?_ ?_ | refine sp4 ?_ ?_ | refine sp5 ?_ ?_ | refine sp6 ?_ ?_ | refine sp7 ?_ ?_) <;> intro hb) <;> (simp only [go_sem, hb])) | ((first | refine wm_done ?_ | refine wt_done ?_ | refine wg_run ?_ | refine fk ?_ ?_) <;> (simp only [go_sem]))) | (first | (refine wl_next (wg_run ?_); (simp only [go_sem])) | refine wd_rounds 6 ?_) | (first | refine cd (hc := ht) (hK := ?_) | refine cm (hc := ht) (hK := ?_) | refine ct (hc := ht) (hK := ?_)); (simp only [go_sem]) | (first | refine cd (hc := hs) (hK := ?_) | refine cm (hc := hs) (hK := ?_) | refine ct (hc := hs) (hK := ?_)); (simp only [go_sem]) | (first | refine cd (hc := ih) (hK := ?_) | refine cm (hc := ih) (hK := ?_) | refine ct (hc := ih) (hK := ?_)); (simp only [go_sem]) | ((first | refine mx 6 [] follows ?_ | refine mx 5 [] follows ?_ | refine mx 4 [] follows ?_ | refine mx 3 [] follows ?_ | refine mx 2 [] follows ?_ | refine mx 1 [] follows ?_ | refine mx 0 [] follows ?_ | fail); (simp only [go_sem])) | fail)
    (refine hR _ ?_; refine rat [] (hK := ⟨rfl, rfl⟩))
  | _ =>
    rename_i t a ih
    intro hw hz
    simp only [E.wf, Bool.and_eq_true, decide_eq_true_eq] at hw
    simp only [E.tm, nd, Tm.size, Tm.sizes] at hz
    have ih := ih hw.2 (by omega)
    have ht := l1Copy 1000 (by omega) t.ty (T.ty_small hw.1)
    simp only [E.subst, E.tm, nd]
    refine fn_in ?_; refine acl_in Tryz.func203 rfl isfn_203 (Nat.le_of_ble_eq_true rfl) (fun R hR => ?_); rw [Tryz.results203] at hR; refine wg_run ?_; (simp only [Tryz.f203, go_sem])
    repeat' (first | (first | (((first | refine sp1 ?_ ?_ | refine sp2 ?_ ?_ | refine sp3 ?_ ?_ | refine sp4 ?_ ?_ | refine sp5 ?_ ?_ | refine sp6 ?_ ?_ | refine sp7 ?_ ?_) <;> intro hb) <;> (simp only [go_sem, hb])) | ((first | refine wm_done ?_ | refine wt_done ?_ | refine wg_run ?_ | refine fk ?_ ?_) <;> (simp only [go_sem]))) | (first | (refine wl_next (wg_run ?_); (simp only [go_sem])) | refine wd_rounds 6 ?_) | (first | refine cd (hc := ht) (hK := ?_) | refine cm (hc := ht) (hK := ?_) | refine ct (hc := ht) (hK := ?_)); (simp only [go_sem]) | (first | refine cd (hc := hno) (hK := ?_) | refine cm (hc := hno) (hK := ?_) | refine ct (hc := hno) (hK := ?_)); (simp only [go_sem]) | (first | refine cd (hc := ih) (hK := ?_) | refine cm (hc := ih) (hK := ?_) | refine ct (hc := ih) (hK := ?_)); (simp only [go_sem]) | ((first | refine mx 6 [] follows ?_ | refine mx 5 [] follows ?_ | refine mx 4 [] follows ?_ | refine mx 3 [] follows ?_ | refine mx 2 [] follows ?_ | refine mx 1 [] follows ?_ | refine mx 0 [] follows ?_ | fail); (simp only [go_sem])) | fail)
    (refine hR _ ?_; refine rat [] (hK := ⟨rfl, rfl⟩))
end Go.Proofs.YtnaebafafhamjaaGreat
/- Steps of terms with casts: the rules, in the reference. On shadows. -/
namespace Go.Proofs.YtnaebafafhamjaaGreat
open Go.RowKit Go.Proofs.Sh Go.Proofs.Grad
set_option maxRecDepth 100000
set_option maxHeartbeats 8000000
theorem sCast5 (t : Tm) (f y : Ty) (l : Int) (hf : f.size < 1000) (hy : y.size < 1000) : AFn Tryz.prog 204 [.agg (teC t), .agg (tyC f), .agg (tyC y), .one (.sc (.int .i64 l))] (.agg (teC (.mk 14 ByteArray.empty 0 y f l [t]))) := by
  have h1 := l1Copy 1000 (by omega) f hf
  have h2 := l1Copy 1000 (by omega) y hy
  refine fn_in ?_; refine acl_in Tryz.func204 rfl isfn_204 (Nat.le_of_ble_eq_true rfl) (fun R hR => ?_); rw [Tryz.results204] at hR; refine wg_run ?_; (simp only [Tryz.f204, go_sem])
  repeat' (first | (first | (((first | refine sp1 ?_ ?_ | refine sp2 ?_ ?_ | refine sp3 ?_ ?_ | refine sp4 ?_ ?_ | refine sp5 ?_ ?_ | refine sp6 ?_ ?_ | refine sp7 ?_ ?_) <;> intro hb) <;> (simp only [go_sem, hb])) | ((first | refine wm_done ?_ | refine wt_done ?_ | refine wg_run ?_ | refine fk ?_ ?_) <;> (simp only [go_sem]))) | (first | (refine tr (.op 0 false (.op 2 false (.op 4 false (.op 5 false (.fork 1 false (.fork 3 false (.op 6 false (.op 7 false (.op 8 true .nil))) (.op 6 false (.op 3 false (.op 7 false (.op 8 true .nil))))) (.op 6 false (.op 1 false (.op 3 false (.op 7 false (.op 8 true .nil)))))))))) [] follows ?_; (simp only [go_sem])) | fail) | ((first | refine mx 6 [] follows ?_ | refine mx 5 [] follows ?_ | refine mx 4 [] follows ?_ | refine mx 3 [] follows ?_ | refine mx 2 [] follows ?_ | refine mx 1 [] follows ?_ | refine mx 0 [] follows ?_ | fail); (simp only [go_sem])) | (first | refine cd (hc := h1) (hK := ?_) | refine cm (hc := h1) (hK := ?_) | refine ct (hc := h1) (hK := ?_)); (simp only [go_sem]) | (first | refine cd (hc := h2) (hK := ?_) | refine cm (hc := h2) (hK := ?_) | refine ct (hc := h2) (hK := ?_)); (simp only [go_sem]) | fail)
  all_goals (refine hR _ ?_; refine rat [] (hK := ⟨rfl, rfl⟩))
def srS (r : SR) : AV := .tup [.agg (teC r.tm), .one (.sc (.int .i64 r.code)), .one (.sc (.int .i64 r.lab))]
theorem T.any_small : T.any.ty.size < 1000 := by simp [T.ty, Ty.size, Ty.sizes]
theorem T.ground_small {t : T} (h : t.depth ≤ 4) : t.ground.ty.size < 1000 := T.ty_small (Nat.le_trans (T.ground_depth t) h)
theorem sConvert (s t : T) (l : Int) (v : E) (h : (E.cast s t l v).wf = true) : AFn Tryz.prog 174 [.agg (teC (E.cast s t l v).tm)] (srS (ruleCast s t l v)) := by
  simp only [E.wf, Bool.and_eq_true, decide_eq_true_eq] at h
  have gs := l1Ground s
  have gt := l1Ground t
  have hig := sGround t (by have := T.ty_small h.1.2; rw [T.ty_size] at this; omega)
  rw [T.isG_ty] at hig
  have c1 := sCast5 v.tm s.ty s.ground.ty l (T.ty_small h.1.1) (T.ground_small h.1.1)
  have c2 := sCast5 (.mk 14 ByteArray.empty 0 s.ground.ty s.ty l [v.tm]) s.ground.ty t.ty l (T.ground_small h.1.1) (T.ty_small h.1.2)
  have d1 := sCast5 v.tm s.ty t.ground.ty l (T.ty_small h.1.1) (T.ground_small h.1.2)
  have d2 := sCast5 (.mk 14 ByteArray.empty 0 t.ground.ty s.ty l [v.tm]) t.ground.ty t.ty l (T.ground_small h.1.2) (T.ty_small h.1.2)
  unfold ruleCast
  cases e1 : (s.ty.kind == t.ty.kind)
  · cases e2 : (t.ty.kind == 1)
    · have hs : s = .any := by
        have hc := h.2.1
        revert e1 e2 hc
        cases s <;> cases t <;> simp [T.ty, Ty.kind, T.cons]
      subst hs
      have e1' : ((1 : Int) == t.ty.kind) = false := e1
      cases e3 : t.isG
      · rw [e3] at hig
        simp only [srS, SR.tm, SR.code, SR.lab]
        simp only [E.tm, T.ty] at e1 d1 d2 ⊢
        refine fn_in ?_; refine acl_in Tryz.func174 rfl isfn_174 (Nat.le_of_ble_eq_true rfl) (fun R hR => ?_); rw [Tryz.results174] at hR; refine wg_run ?_; (simp only [Tryz.f174, go_sem, e1, e1', e2])
        repeat' (first | (first | (simp only [go_sem, e1, e1', e2, int_bne]) | (((first | refine sp1 ?_ ?_ | refine sp2 ?_ ?_ | refine sp3 ?_ ?_ | refine sp4 ?_ ?_ | refine sp5 ?_ ?_ | refine sp6 ?_ ?_ | refine sp7 ?_ ?_) <;> intro hb) <;> (simp only [go_sem, hb, e1, e1', e2, int_bne])) | ((first | refine wm_done ?_ | refine wt_done ?_ | refine wg_run ?_ | refine fk ?_ ?_) <;> (simp only [go_sem, e1, e1', e2, int_bne]))) | (first | (refine tr (.op 0 false (.op 1 false (.op 2 false (.op 3 false (.op 4 false (.op 5 false .nil)))))) [1] follows ?_; (simp only [go_sem, e1, e1', e2, int_bne])) | fail) | ((first | refine mx 6 [] follows ?_ | refine mx 5 [] follows ?_ | refine mx 4 [] follows ?_ | refine mx 3 [] follows ?_ | refine mx 2 [] follows ?_ | refine mx 1 [] follows ?_ | refine mx 0 [] follows ?_ | fail); (simp only [go_sem, e1, e1', e2, int_bne])) | (first | refine cd (hc := gt) (hK := ?_) | refine cm (hc := gt) (hK := ?_) | refine ct (hc := gt) (hK := ?_)); (simp only [go_sem]) | (first | refine cd (hc := hig) (hK := ?_) | refine cm (hc := hig) (hK := ?_) | refine ct (hc := hig) (hK := ?_)); (simp only [go_sem]) | (first | refine cd (hc := d1) (hK := ?_) | refine cm (hc := d1) (hK := ?_) | refine ct (hc := d1) (hK := ?_)); (simp only [go_sem]) | (first | refine cd (hc := d2) (hK := ?_) | refine cm (hc := d2) (hK := ?_) | refine ct (hc := d2) (hK := ?_)); (simp only [go_sem]) | fail)
        all_goals (refine hR _ ?_; refine rat [] (hK := ⟨rfl, rfl⟩))
      · rw [e3] at hig
        cases v with
        | cast s' t' l' w =>
          have h' := h.2.2.2
          simp only [E.wf, Bool.and_eq_true, decide_eq_true_eq] at h'
          have hi := sInj (E.cast s' t' l' w).tm s' rfl (by have := T.ty_small h'.1.1; rw [T.ty_size] at this; omega)
          simp only [E.tm, Tm.kind, Tm.type, Tm.frm] at hi
          rw [injB_T] at hi
          simp only [ruleOut]
          cases e4 : injT s' t'
          · rw [e4] at hi
            simp only [srS, SR.tm, SR.code, SR.lab]
            simp only [E.tm, T.ty] at e1 ⊢
            refine fn_in ?_; refine acl_in Tryz.func174 rfl isfn_174 (Nat.le_of_ble_eq_true rfl) (fun R hR => ?_); rw [Tryz.results174] at hR; refine wg_run ?_; (simp only [Tryz.f174, go_sem, e1, e1', e2])
            repeat' (first | (first | (simp only [go_sem, e1, e1', e2, int_bne]) | (((first | refine sp1 ?_ ?_ | refine sp2 ?_ ?_ | refine sp3 ?_ ?_ | refine sp4 ?_ ?_ | refine sp5 ?_ ?_ | refine sp6 ?_ ?_ | refine sp7 ?_ ?_) <;> intro hb) <;> (simp only [go_sem, hb, e1, e1', e2, int_bne])) | ((first | refine wm_done ?_ | refine wt_done ?_ | refine wg_run ?_ | refine fk ?_ ?_) <;> (simp only [go_sem, e1, e1', e2, int_bne]))) | (first | (refine tr (.op 0 false (.op 1 false (.op 2 false (.op 3 false (.op 4 false (.op 5 false .nil)))))) [1] follows ?_; (simp only [go_sem, e1, e1', e2, int_bne])) | fail) | ((first | refine mx 6 [] follows ?_ | refine mx 5 [] follows ?_ | refine mx 4 [] follows ?_ | refine mx 3 [] follows ?_ | refine mx 2 [] follows ?_ | refine mx 1 [] follows ?_ | refine mx 0 [] follows ?_ | fail); (simp only [go_sem, e1, e1', e2, int_bne])) | (first | refine cd (hc := hig) (hK := ?_) | refine cm (hc := hig) (hK := ?_) | refine ct (hc := hig) (hK := ?_)); (simp only [go_sem]) | (first | refine cd (hc := hi) (hK := ?_) | refine cm (hc := hi) (hK := ?_) | refine ct (hc := hi) (hK := ?_)); (simp only [go_sem]) | fail)
            all_goals (refine hR _ ?_; refine rat [] (hK := ⟨rfl, rfl⟩))
          · rw [e4] at hi
            cases e6 : (s'.ty.kind == t.ty.kind)
            all_goals
              simp only [srS, SR.tm, SR.code, SR.lab]
              simp only [E.tm, T.ty] at e1 ⊢
              refine fn_in ?_; refine acl_in Tryz.func174 rfl isfn_174 (Nat.le_of_ble_eq_true rfl) (fun R hR => ?_); rw [Tryz.results174] at hR; refine wg_run ?_; (simp only [Tryz.f174, go_sem, e1, e1', e2, e6])
              repeat' (first | (first | (simp only [go_sem, e1, e1', e2, e6, int_bne]) | (((first | refine sp1 ?_ ?_ | refine sp2 ?_ ?_ | refine sp3 ?_ ?_ | refine sp4 ?_ ?_ | refine sp5 ?_ ?_ | refine sp6 ?_ ?_ | refine sp7 ?_ ?_) <;> intro hb) <;> (simp only [go_sem, hb, e1, e1', e2, e6, int_bne])) | ((first | refine wm_done ?_ | refine wt_done ?_ | refine wg_run ?_ | refine fk ?_ ?_) <;> (simp only [go_sem, e1, e1', e2, e6, int_bne]))) | (first | (refine tr (.op 0 false (.op 1 false (.op 2 false (.op 3 false (.op 4 false (.op 5 false .nil)))))) [1] follows ?_; (simp only [go_sem, e1, e1', e2, e6, int_bne])) | fail) | ((first | refine mx 6 [] follows ?_ | refine mx 5 [] follows ?_ | refine mx 4 [] follows ?_ | refine mx 3 [] follows ?_ | refine mx 2 [] follows ?_ | refine mx 1 [] follows ?_ | refine mx 0 [] follows ?_ | fail); (simp only [go_sem, e1, e1', e2, e6, int_bne])) | (first | refine cd (hc := hig) (hK := ?_) | refine cm (hc := hig) (hK := ?_) | refine ct (hc := hig) (hK := ?_)); (simp only [go_sem]) | (first | refine cd (hc := hi) (hK := ?_) | refine cm (hc := hi) (hK := ?_) | refine ct (hc := hi) (hK := ?_)); (simp only [go_sem]) | fail)
              all_goals (refine hR _ ?_; refine rat [] (hK := ⟨rfl, rfl⟩))
        | _ =>
          simp only [ruleOut]
          simp only [srS, SR.tm, SR.code, SR.lab]
          simp only [E.tm, nd, T.ty] at e1 ⊢
          refine fn_in ?_; refine acl_in Tryz.func174 rfl isfn_174 (Nat.le_of_ble_eq_true rfl) (fun R hR => ?_); rw [Tryz.results174] at hR; refine wg_run ?_; (simp only [Tryz.f174, go_sem, e1, e1', e2])
          repeat' (first | (first | (simp only [go_sem, e1, e1', e2, int_bne]) | (((first | refine sp1 ?_ ?_ | refine sp2 ?_ ?_ | refine sp3 ?_ ?_ | refine sp4 ?_ ?_ | refine sp5 ?_ ?_ | refine sp6 ?_ ?_ | refine sp7 ?_ ?_) <;> intro hb) <;> (simp only [go_sem, hb, e1, e1', e2, int_bne])) | ((first | refine wm_done ?_ | refine wt_done ?_ | refine wg_run ?_ | refine fk ?_ ?_) <;> (simp only [go_sem, e1, e1', e2, int_bne]))) | (first | (refine tr (.op 0 false (.op 1 false (.op 2 false (.op 3 false (.op 4 false (.op 5 false .nil)))))) [1] follows ?_; (simp only [go_sem, e1, e1', e2, int_bne])) | fail) | ((first | refine mx 6 [] follows ?_ | refine mx 5 [] follows ?_ | refine mx 4 [] follows ?_ | refine mx 3 [] follows ?_ | refine mx 2 [] follows ?_ | refine mx 1 [] follows ?_ | refine mx 0 [] follows ?_ | fail); (simp only [go_sem, e1, e1', e2, int_bne])) | (first | refine cd (hc := hig) (hK := ?_) | refine cm (hc := hig) (hK := ?_) | refine ct (hc := hig) (hK := ?_)); (simp only [go_sem]) | (first | refine cd (hc := sInj0 _ rfl) (hK := ?_) | refine cm (hc := sInj0 _ rfl) (hK := ?_) | refine ct (hc := sInj0 _ rfl) (hK := ?_)); (simp only [go_sem]) | fail)
          all_goals (refine hR _ ?_; refine rat [] (hK := ⟨rfl, rfl⟩))
    · simp only [srS, SR.tm, SR.code, SR.lab]
      have ht : t = .any := by
        revert e2; cases t <;> simp [T.ty, Ty.kind]
      subst ht
      have e1' : (s.ty.kind == (1 : Int)) = false := e1
      simp only [E.tm, T.ty] at e1 c1 c2 ⊢
      refine fn_in ?_; refine acl_in Tryz.func174 rfl isfn_174 (Nat.le_of_ble_eq_true rfl) (fun R hR => ?_); rw [Tryz.results174] at hR; refine wg_run ?_; (simp only [Tryz.f174, go_sem, e1, e1', e2])
      repeat' (first | (first | (simp only [go_sem, e1, e1', e2, int_bne]) | (((first | refine sp1 ?_ ?_ | refine sp2 ?_ ?_ | refine sp3 ?_ ?_ | refine sp4 ?_ ?_ | refine sp5 ?_ ?_ | refine sp6 ?_ ?_ | refine sp7 ?_ ?_) <;> intro hb) <;> (simp only [go_sem, hb, e1, e1', e2, int_bne])) | ((first | refine wm_done ?_ | refine wt_done ?_ | refine wg_run ?_ | refine fk ?_ ?_) <;> (simp only [go_sem, e1, e1', e2, int_bne]))) | (first | (refine tr (.op 0 false (.op 1 false (.op 2 false (.op 3 false (.op 4 false (.op 5 false .nil)))))) [1] follows ?_; (simp only [go_sem, e1, e1', e2, int_bne])) | fail) | ((first | refine mx 6 [] follows ?_ | refine mx 5 [] follows ?_ | refine mx 4 [] follows ?_ | refine mx 3 [] follows ?_ | refine mx 2 [] follows ?_ | refine mx 1 [] follows ?_ | refine mx 0 [] follows ?_ | fail); (simp only [go_sem, e1, e1', e2, int_bne])) | (first | refine cd (hc := gs) (hK := ?_) | refine cm (hc := gs) (hK := ?_) | refine ct (hc := gs) (hK := ?_)); (simp only [go_sem]) | (first | refine cd (hc := c1) (hK := ?_) | refine cm (hc := c1) (hK := ?_) | refine ct (hc := c1) (hK := ?_)); (simp only [go_sem]) | (first | refine cd (hc := c2) (hK := ?_) | refine cm (hc := c2) (hK := ?_) | refine ct (hc := c2) (hK := ?_)); (simp only [go_sem]) | fail)
      all_goals (refine hR _ ?_; refine rat [] (hK := ⟨rfl, rfl⟩))
  · simp only [srS, SR.tm, SR.code, SR.lab]
    simp only [E.tm]
    refine fn_in ?_; refine acl_in Tryz.func174 rfl isfn_174 (Nat.le_of_ble_eq_true rfl) (fun R hR => ?_); rw [Tryz.results174] at hR; refine wg_run ?_; (simp only [Tryz.f174, go_sem, e1])
    repeat' (first | (first | (simp only [go_sem, e1, int_bne]) | (((first | refine sp1 ?_ ?_ | refine sp2 ?_ ?_ | refine sp3 ?_ ?_ | refine sp4 ?_ ?_ | refine sp5 ?_ ?_ | refine sp6 ?_ ?_ | refine sp7 ?_ ?_) <;> intro hb) <;> (simp only [go_sem, hb, e1, int_bne])) | ((first | refine wm_done ?_ | refine wt_done ?_ | refine wg_run ?_ | refine fk ?_ ?_) <;> (simp only [go_sem, e1, int_bne]))) | (first | (refine tr (.op 0 false (.op 1 false (.op 2 false (.op 3 false (.op 4 false (.op 5 false .nil)))))) [1] follows ?_; (simp only [go_sem, e1, int_bne])) | fail) | ((first | refine mx 6 [] follows ?_ | refine mx 5 [] follows ?_ | refine mx 4 [] follows ?_ | refine mx 3 [] follows ?_ | refine mx 2 [] follows ?_ | refine mx 1 [] follows ?_ | refine mx 0 [] follows ?_ | fail); (simp only [go_sem, e1, int_bne])) | fail)
    all_goals (refine hR _ ?_; refine rat [] (hK := ⟨rfl, rfl⟩))
theorem sNode (k : Int) (ks : List Tm) : AFn Tryz.prog 190 [.one (.sc (.int .i64 k)), .one (.sl (teR ks))] (.agg (teC (nd k ks))) := by
  refine fn_in ?_; refine acl_in Tryz.func190 rfl isfn_190 (Nat.le_of_ble_eq_true rfl) (fun R hR => ?_); rw [Tryz.results190] at hR; refine wg_run ?_; (simp only [Tryz.f190, go_sem])
  repeat' (first | (first | (((first | refine sp1 ?_ ?_ | refine sp2 ?_ ?_ | refine sp3 ?_ ?_ | refine sp4 ?_ ?_ | refine sp5 ?_ ?_ | refine sp6 ?_ ?_ | refine sp7 ?_ ?_) <;> intro hb) <;> (simp only [go_sem, hb])) | ((first | refine wm_done ?_ | refine wt_done ?_ | refine wg_run ?_ | refine fk ?_ ?_) <;> (simp only [go_sem]))) | ((first | refine mx 6 [] follows ?_ | refine mx 5 [] follows ?_ | refine mx 4 [] follows ?_ | refine mx 3 [] follows ?_ | refine mx 2 [] follows ?_ | refine mx 1 [] follows ?_ | refine mx 0 [] follows ?_ | fail); (simp only [go_sem])) | fail)
  all_goals (refine hR _ ?_; refine rat [] (hK := ⟨rfl, rfl⟩))
theorem sApply (a b : E) (ha : a.wf = true) (hb : b.wf = true) (hz : a.tm.size < 100000000) (hz2 : b.tm.size < 100000000) : AFn Tryz.prog 171 [.agg (teC a.tm), .agg (teC b.tm)] (srS (ruleApp a b)) := by
  cases a with
  | lam x t c =>
    simp only [E.wf, Bool.and_eq_true, decide_eq_true_eq] at ha
    simp only [E.tm, Tm.size, Tm.sizes] at hz
    have hs := sSubst x b hz2 c ha.2.2 (by omega)
    simp only [ruleApp, srS, SR.tm, SR.code, SR.lab]
    simp only [E.tm]
    refine fn_in ?_; refine acl_in Tryz.func171 rfl isfn_171 (Nat.le_of_ble_eq_true rfl) (fun R hR => ?_); rw [Tryz.results171] at hR; refine wg_run ?_; (simp only [Tryz.f171, go_sem])
    repeat' (first | (first | (((first | refine sp1 ?_ ?_ | refine sp2 ?_ ?_ | refine sp3 ?_ ?_ | refine sp4 ?_ ?_ | refine sp5 ?_ ?_ | refine sp6 ?_ ?_ | refine sp7 ?_ ?_) <;> intro hb) <;> (simp only [go_sem, hb])) | ((first | refine wm_done ?_ | refine wt_done ?_ | refine wg_run ?_ | refine fk ?_ ?_) <;> (simp only [go_sem]))) | (first | refine cd (hc := hs) (hK := ?_) | refine cm (hc := hs) (hK := ?_) | refine ct (hc := hs) (hK := ?_)); (simp only [go_sem]) | (first | (refine tr (.op 0 false (.op 1 false (.op 2 false (.op 3 false (.op 4 false (.op 5 false (.op 6 false (.op 7 false (.op 8 false (.op 9 false (.op 10 false (.op 11 false (.op 12 false (.op 13 false (.fork 14 true (.op 15 false (.op 16 true .nil)) (.op 15 false (.op 14 true (.op 16 true .nil)))))))))))))))))) [] follows ?_; (simp only [go_sem])) | (refine tr (.op 0 false (.op 1 false (.op 2 false (.op 3 false (.op 4 false (.fork 5 true (.fork 6 true (.op 7 false (.op 8 true .nil)) (.op 7 false (.op 6 true (.op 8 true .nil)))) (.op 7 false (.op 5 true (.op 6 true (.op 8 true .nil)))))))))) [] follows ?_; (simp only [go_sem])) | fail) | ((first | refine mx 6 [] follows ?_ | refine mx 5 [] follows ?_ | refine mx 4 [] follows ?_ | refine mx 3 [] follows ?_ | refine mx 2 [] follows ?_ | refine mx 1 [] follows ?_ | refine mx 0 [] follows ?_ | fail); (simp only [go_sem])) | fail)
    all_goals (refine hR _ ?_; refine rat [] (hK := ⟨rfl, rfl⟩))
  | cast s t l f =>
    simp only [E.wf, Bool.and_eq_true, decide_eq_true_eq] at ha
    have hp := sProxy (E.cast s t l f).tm
    simp only [E.tm, Tm.kind, Tm.type, Tm.frm] at hp
    rw [proxyB_T] at hp
    have hn := fun ks => sNode 6 ks
    have hw : IntKind.i64.wrap (0 - l) = -l := by have := lab_bd2 ha.2.2.1; rw [IntWalk.i64_in _ (by omega)]; omega
    have hd1 := ha.1.1
    have hd2 := ha.1.2
    cases s <;> cases t <;> simp only [proxyT, T.isFn, T.isPr, Bool.false_and, Bool.and_false, Bool.and_true, Bool.true_and, Bool.or_false, Bool.or_true, Bool.or_self] at hp
    case fn.fn s1 s2 t1 t2 =>
      simp only [T.depth] at hd1 hd2
      have c1 := sCast5 b.tm t1.ty s1.ty (-l) (T.ty_small (by omega)) (T.ty_small (by omega))
      have c2 := sCast5 (nd 6 [f.tm, .mk 14 ByteArray.empty 0 s1.ty t1.ty (-l) [b.tm]]) s2.ty t2.ty l (T.ty_small (by omega)) (T.ty_small (by omega))
      simp only [ruleApp, srS, SR.tm, SR.code, SR.lab]
      simp only [E.tm, nd, T.ty] at hp c2 ⊢
      refine fn_in ?_; refine acl_in Tryz.func171 rfl isfn_171 (Nat.le_of_ble_eq_true rfl) (fun R hR => ?_); rw [Tryz.results171] at hR; refine wg_run ?_; (simp only [Tryz.f171, go_sem, hw])
      repeat' (first | (first | (simp only [go_sem, hw, int_bne]) | (((first | refine sp1 ?_ ?_ | refine sp2 ?_ ?_ | refine sp3 ?_ ?_ | refine sp4 ?_ ?_ | refine sp5 ?_ ?_ | refine sp6 ?_ ?_ | refine sp7 ?_ ?_) <;> intro hb) <;> (simp only [go_sem, hb, hw, int_bne])) | ((first | refine wm_done ?_ | refine wt_done ?_ | refine wg_run ?_ | refine fk ?_ ?_) <;> (simp only [go_sem, hw, int_bne]))) | (first | (refine tr (.op 0 false (.op 1 false (.op 2 false (.op 3 false (.op 4 false (.op 5 false (.op 6 false (.op 7 false (.op 8 false (.op 9 false (.op 10 false (.op 11 false (.op 12 false (.op 13 false (.fork 14 true (.op 15 false (.op 16 true .nil)) (.op 15 false (.op 14 true (.op 16 true .nil)))))))))))))))))) [] follows ?_; (simp only [go_sem, hw, int_bne])) | (refine tr (.op 0 false (.op 1 false (.op 2 false (.op 3 false (.op 4 false (.fork 5 true (.fork 6 true (.op 7 false (.op 8 true .nil)) (.op 7 false (.op 6 true (.op 8 true .nil)))) (.op 7 false (.op 5 true (.op 6 true (.op 8 true .nil)))))))))) [] follows ?_; (simp only [go_sem, hw, int_bne])) | fail) | ((first | refine mx 6 [] follows ?_ | refine mx 5 [] follows ?_ | refine mx 4 [] follows ?_ | refine mx 3 [] follows ?_ | refine mx 2 [] follows ?_ | refine mx 1 [] follows ?_ | refine mx 0 [] follows ?_ | fail); (simp only [go_sem, hw, int_bne])) | (first | refine cd (hc := hp) (hK := ?_) | refine cm (hc := hp) (hK := ?_) | refine ct (hc := hp) (hK := ?_)); (simp only [go_sem]) | (first | refine cd (hc := c1) (hK := ?_) | refine cm (hc := c1) (hK := ?_) | refine ct (hc := c1) (hK := ?_)); (simp only [go_sem]) | (first | refine cd (hc := c2) (hK := ?_) | refine cm (hc := c2) (hK := ?_) | refine ct (hc := c2) (hK := ?_)); (simp only [go_sem]) | (first | refine cd (hc := hn [_, _]) (hK := ?_) | refine cm (hc := hn [_, _]) (hK := ?_) | refine ct (hc := hn [_, _]) (hK := ?_)); (simp only [go_sem]) | fail)
      all_goals (refine hR _ ?_; refine rat [] (hK := ⟨rfl, rfl⟩))
    all_goals
      simp only [ruleApp, srS, SR.tm, SR.code, SR.lab]
      simp only [E.tm, nd, T.ty] at hp ⊢
      refine fn_in ?_; refine acl_in Tryz.func171 rfl isfn_171 (Nat.le_of_ble_eq_true rfl) (fun R hR => ?_); rw [Tryz.results171] at hR; refine wg_run ?_; (simp only [Tryz.f171, go_sem, hw])
      repeat' (first | (first | (simp only [go_sem, hw, int_bne]) | (((first | refine sp1 ?_ ?_ | refine sp2 ?_ ?_ | refine sp3 ?_ ?_ | refine sp4 ?_ ?_ | refine sp5 ?_ ?_ | refine sp6 ?_ ?_ | refine sp7 ?_ ?_) <;> intro hb) <;> (simp only [go_sem, hb, hw, int_bne])) | ((first | refine wm_done ?_ | refine wt_done ?_ | refine wg_run ?_ | refine fk ?_ ?_) <;> (simp only [go_sem, hw, int_bne]))) | (first | (refine tr (.op 0 false (.op 1 false (.op 2 false (.op 3 false (.op 4 false (.op 5 false (.op 6 false (.op 7 false (.op 8 false (.op 9 false (.op 10 false (.op 11 false (.op 12 false (.op 13 false (.fork 14 true (.op 15 false (.op 16 true .nil)) (.op 15 false (.op 14 true (.op 16 true .nil)))))))))))))))))) [] follows ?_; (simp only [go_sem, hw, int_bne])) | (refine tr (.op 0 false (.op 1 false (.op 2 false (.op 3 false (.op 4 false (.fork 5 true (.fork 6 true (.op 7 false (.op 8 true .nil)) (.op 7 false (.op 6 true (.op 8 true .nil)))) (.op 7 false (.op 5 true (.op 6 true (.op 8 true .nil)))))))))) [] follows ?_; (simp only [go_sem, hw, int_bne])) | fail) | ((first | refine mx 6 [] follows ?_ | refine mx 5 [] follows ?_ | refine mx 4 [] follows ?_ | refine mx 3 [] follows ?_ | refine mx 2 [] follows ?_ | refine mx 1 [] follows ?_ | refine mx 0 [] follows ?_ | fail); (simp only [go_sem, hw, int_bne])) | (first | refine cd (hc := hp) (hK := ?_) | refine cm (hc := hp) (hK := ?_) | refine ct (hc := hp) (hK := ?_)); (simp only [go_sem]) | fail)
      all_goals (refine hR _ ?_; refine rat [] (hK := ⟨rfl, rfl⟩))
  | _ =>
    simp only [ruleApp, srS, SR.tm, SR.code, SR.lab]
    simp only [E.tm, nd]
    refine fn_in ?_; refine acl_in Tryz.func171 rfl isfn_171 (Nat.le_of_ble_eq_true rfl) (fun R hR => ?_); rw [Tryz.results171] at hR; refine wg_run ?_; (simp only [Tryz.f171, go_sem])
    repeat' (first | (first | (simp only [go_sem, int_bne]) | (((first | refine sp1 ?_ ?_ | refine sp2 ?_ ?_ | refine sp3 ?_ ?_ | refine sp4 ?_ ?_ | refine sp5 ?_ ?_ | refine sp6 ?_ ?_ | refine sp7 ?_ ?_) <;> intro hb) <;> (simp only [go_sem, hb, int_bne])) | ((first | refine wm_done ?_ | refine wt_done ?_ | refine wg_run ?_ | refine fk ?_ ?_) <;> (simp only [go_sem, int_bne]))) | (first | (refine tr (.op 0 false (.op 1 false (.op 2 false (.op 3 false (.op 4 false (.op 5 false (.op 6 false (.op 7 false (.op 8 false (.op 9 false (.op 10 false (.op 11 false (.op 12 false (.op 13 false (.fork 14 true (.op 15 false (.op 16 true .nil)) (.op 15 false (.op 14 true (.op 16 true .nil)))))))))))))))))) [] follows ?_; (simp only [go_sem, int_bne])) | (refine tr (.op 0 false (.op 1 false (.op 2 false (.op 3 false (.op 4 false (.fork 5 true (.fork 6 true (.op 7 false (.op 8 true .nil)) (.op 7 false (.op 6 true (.op 8 true .nil)))) (.op 7 false (.op 5 true (.op 6 true (.op 8 true .nil)))))))))) [] follows ?_; (simp only [go_sem, int_bne])) | fail) | ((first | refine mx 6 [] follows ?_ | refine mx 5 [] follows ?_ | refine mx 4 [] follows ?_ | refine mx 3 [] follows ?_ | refine mx 2 [] follows ?_ | refine mx 1 [] follows ?_ | refine mx 0 [] follows ?_ | fail); (simp only [go_sem, int_bne])) | (first | refine cd (hc := sProxy0 _ rfl) (hK := ?_) | refine cm (hc := sProxy0 _ rfl) (hK := ?_) | refine ct (hc := sProxy0 _ rfl) (hK := ?_)); (simp only [go_sem]) | fail)
    all_goals (refine hR _ ?_; refine rat [] (hK := ⟨rfl, rfl⟩))
theorem sPart (a : E) (ha : a.wf = true) (fs : Bool) : AFn Tryz.prog 173 [.one (.sc (.int .i64 (match fs with | true => 11 | false => 12))), .agg (teC a.tm)] (srS (match fs with | true => ruleFst a | false => ruleSnd a)) := by
  cases a with
  | cast s t l f =>
    simp only [E.wf, Bool.and_eq_true, decide_eq_true_eq] at ha
    have hp := sProxy (E.cast s t l f).tm
    simp only [E.tm, Tm.kind, Tm.type, Tm.frm] at hp
    rw [proxyB_T] at hp
    have hn := fun k ks => sNode k ks
    have hd1 := ha.1.1
    have hd2 := ha.1.2
    cases s <;> cases t <;> simp only [proxyT, T.isFn, T.isPr, Bool.false_and, Bool.and_false, Bool.and_true, Bool.true_and, Bool.or_false, Bool.or_true, Bool.or_self] at hp
    case pr.pr s1 s2 t1 t2 =>
      simp only [T.depth] at hd1 hd2
      have c1 := fun k => sCast5 (nd k [f.tm]) s1.ty t1.ty l (T.ty_small (by omega)) (T.ty_small (by omega))
      have c2 := fun k => sCast5 (nd k [f.tm]) s2.ty t2.ty l (T.ty_small (by omega)) (T.ty_small (by omega))
      cases fs
      all_goals
        simp only [ruleFst, ruleSnd, srS, SR.tm, SR.code, SR.lab]
        simp only [E.tm, nd, T.ty] at hp c1 c2 ⊢
        refine fn_in ?_; refine acl_in Tryz.func173 rfl isfn_173 (Nat.le_of_ble_eq_true rfl) (fun R hR => ?_); rw [Tryz.results173] at hR; refine wg_run ?_; (simp only [Tryz.f173, go_sem])
        repeat' (first | (first | (simp only [go_sem, int_bne]) | (((first | refine sp1 ?_ ?_ | refine sp2 ?_ ?_ | refine sp3 ?_ ?_ | refine sp4 ?_ ?_ | refine sp5 ?_ ?_ | refine sp6 ?_ ?_ | refine sp7 ?_ ?_) <;> intro hb) <;> (simp only [go_sem, hb, int_bne])) | ((first | refine wm_done ?_ | refine wt_done ?_ | refine wg_run ?_ | refine fk ?_ ?_) <;> (simp only [go_sem, int_bne]))) | ((first | refine mx 6 [] follows ?_ | refine mx 5 [] follows ?_ | refine mx 4 [] follows ?_ | refine mx 3 [] follows ?_ | refine mx 2 [] follows ?_ | refine mx 1 [] follows ?_ | refine mx 0 [] follows ?_ | fail); (simp only [go_sem, int_bne])) | (first | refine cd (hc := hp) (hK := ?_) | refine cm (hc := hp) (hK := ?_) | refine ct (hc := hp) (hK := ?_)); (simp only [go_sem]) | (first | refine cd (hc := c1 _) (hK := ?_) | refine cm (hc := c1 _) (hK := ?_) | refine ct (hc := c1 _) (hK := ?_)); (simp only [go_sem]) | (first | refine cd (hc := c2 _) (hK := ?_) | refine cm (hc := c2 _) (hK := ?_) | refine ct (hc := c2 _) (hK := ?_)); (simp only [go_sem]) | (first | refine cd (hc := hn _ [_]) (hK := ?_) | refine cm (hc := hn _ [_]) (hK := ?_) | refine ct (hc := hn _ [_]) (hK := ?_)); (simp only [go_sem]) | fail)
        all_goals (refine hR _ ?_; refine rat [] (hK := ⟨rfl, rfl⟩))
    all_goals
      cases fs
      all_goals
        simp only [ruleFst, ruleSnd, srS, SR.tm, SR.code, SR.lab]
        simp only [E.tm, nd, T.ty] at hp ⊢
        refine fn_in ?_; refine acl_in Tryz.func173 rfl isfn_173 (Nat.le_of_ble_eq_true rfl) (fun R hR => ?_); rw [Tryz.results173] at hR; refine wg_run ?_; (simp only [Tryz.f173, go_sem])
        repeat' (first | (first | (simp only [go_sem, int_bne]) | (((first | refine sp1 ?_ ?_ | refine sp2 ?_ ?_ | refine sp3 ?_ ?_ | refine sp4 ?_ ?_ | refine sp5 ?_ ?_ | refine sp6 ?_ ?_ | refine sp7 ?_ ?_) <;> intro hb) <;> (simp only [go_sem, hb, int_bne])) | ((first | refine wm_done ?_ | refine wt_done ?_ | refine wg_run ?_ | refine fk ?_ ?_) <;> (simp only [go_sem, int_bne]))) | ((first | refine mx 6 [] follows ?_ | refine mx 5 [] follows ?_ | refine mx 4 [] follows ?_ | refine mx 3 [] follows ?_ | refine mx 2 [] follows ?_ | refine mx 1 [] follows ?_ | refine mx 0 [] follows ?_ | fail); (simp only [go_sem, int_bne])) | (first | refine cd (hc := hp) (hK := ?_) | refine cm (hc := hp) (hK := ?_) | refine ct (hc := hp) (hK := ?_)); (simp only [go_sem]) | fail)
        all_goals (refine hR _ ?_; refine rat [] (hK := ⟨rfl, rfl⟩))
  | _ =>
    cases fs
    all_goals
      simp only [ruleFst, ruleSnd, srS, SR.tm, SR.code, SR.lab]
      simp only [E.tm, nd]
      refine fn_in ?_; refine acl_in Tryz.func173 rfl isfn_173 (Nat.le_of_ble_eq_true rfl) (fun R hR => ?_); rw [Tryz.results173] at hR; refine wg_run ?_; (simp only [Tryz.f173, go_sem])
      repeat' (first | (first | (simp only [go_sem, int_bne]) | (((first | refine sp1 ?_ ?_ | refine sp2 ?_ ?_ | refine sp3 ?_ ?_ | refine sp4 ?_ ?_ | refine sp5 ?_ ?_ | refine sp6 ?_ ?_ | refine sp7 ?_ ?_) <;> intro hb) <;> (simp only [go_sem, hb, int_bne])) | ((first | refine wm_done ?_ | refine wt_done ?_ | refine wg_run ?_ | refine fk ?_ ?_) <;> (simp only [go_sem, int_bne]))) | ((first | refine mx 6 [] follows ?_ | refine mx 5 [] follows ?_ | refine mx 4 [] follows ?_ | refine mx 3 [] follows ?_ | refine mx 2 [] follows ?_ | refine mx 1 [] follows ?_ | refine mx 0 [] follows ?_ | fail); (simp only [go_sem, int_bne])) | (first | refine cd (hc := sProxy0 _ rfl) (hK := ?_) | refine cm (hc := sProxy0 _ rfl) (hK := ?_) | refine ct (hc := sProxy0 _ rfl) (hK := ?_)); (simp only [go_sem]) | fail)
      all_goals (refine hR _ ?_; refine rat [] (hK := ⟨rfl, rfl⟩))
theorem sBool5 (b : Bool) : AFn Tryz.prog 205 [.one (.sc (.bool b))] (.agg (teC (match b with | true => E.tru | false => E.fls).tm)) := by
  cases b
  all_goals
    simp only [E.tm, nd]
    refine fn_in ?_; refine acl_in Tryz.func205 rfl isfn_205 (Nat.le_of_ble_eq_true rfl) (fun R hR => ?_); rw [Tryz.results205] at hR; refine wg_run ?_; (simp only [Tryz.f205, go_sem])
    repeat' (first | (first | (((first | refine sp1 ?_ ?_ | refine sp2 ?_ ?_ | refine sp3 ?_ ?_ | refine sp4 ?_ ?_ | refine sp5 ?_ ?_ | refine sp6 ?_ ?_ | refine sp7 ?_ ?_) <;> intro hb) <;> (simp only [go_sem, hb])) | ((first | refine wm_done ?_ | refine wt_done ?_ | refine wg_run ?_ | refine fk ?_ ?_) <;> (simp only [go_sem]))) | fail)
    all_goals (refine hR _ ?_; refine rat [] (hK := ⟨rfl, rfl⟩))
theorem sNum2 (n : Int) : AFn Tryz.prog 107 [.one (.sc (.int .i64 n))] (.agg (teC (E.num n).tm)) := by
  simp only [E.tm]
  refine fn_in ?_; refine acl_in Tryz.func107 rfl isfn_107 (Nat.le_of_ble_eq_true rfl) (fun R hR => ?_); rw [Tryz.results107] at hR; refine wg_run ?_; (simp only [Tryz.f107, go_sem])
  repeat' (first | (first | (((first | refine sp1 ?_ ?_ | refine sp2 ?_ ?_ | refine sp3 ?_ ?_ | refine sp4 ?_ ?_ | refine sp5 ?_ ?_ | refine sp6 ?_ ?_ | refine sp7 ?_ ?_) <;> intro hb) <;> (simp only [go_sem, hb])) | ((first | refine wm_done ?_ | refine wt_done ?_ | refine wg_run ?_ | refine fk ?_ ?_) <;> (simp only [go_sem]))) | fail)
  all_goals (refine hR _ ?_; refine rat [] (hK := ⟨rfl, rfl⟩))
theorem sNumber (a b : E) (ha : a.wf = true) (hb : b.wf = true) (ad : Bool) : AFn Tryz.prog 172 [.one (.sc (.int .i64 (match ad with | true => 7 | false => 8))), .agg (teC a.tm), .agg (teC b.tm)] (srS (match ad with | true => ruleAdd a b | false => ruleLess a b)) := by
  cases a with
  | num n =>
    cases b with
    | num m =>
      simp only [E.wf, Bool.and_eq_true, decide_eq_true_eq] at ha hb
      have hw : IntKind.i64.wrap (n + m) = n + m := IntWalk.i64_in _ (by omega)
      have hn := sNum2 ((n + m).tmod 1000)
      have ht := sBool5 (decide (n < m))
      cases ad
      · simp only [ruleLess]
        cases hd : decide (n < m)
        all_goals
          rw [hd] at ht
          simp only [srS, SR.tm, SR.code, SR.lab]
          simp only [E.tm, nd] at ht ⊢
          refine fn_in ?_; refine acl_in Tryz.func172 rfl isfn_172 (Nat.le_of_ble_eq_true rfl) (fun R hR => ?_); rw [Tryz.results172] at hR; refine wg_run ?_; (simp only [Tryz.f172, go_sem, hd])
          repeat' (first | (first | (simp only [go_sem, hd, int_bne]) | (((first | refine sp1 ?_ ?_ | refine sp2 ?_ ?_ | refine sp3 ?_ ?_ | refine sp4 ?_ ?_ | refine sp5 ?_ ?_ | refine sp6 ?_ ?_ | refine sp7 ?_ ?_) <;> intro hb) <;> (simp only [go_sem, hb, hd, int_bne])) | ((first | refine wm_done ?_ | refine wt_done ?_ | refine wg_run ?_ | refine fk ?_ ?_) <;> (simp only [go_sem, hd, int_bne]))) | ((first | refine mx 6 [] follows ?_ | refine mx 5 [] follows ?_ | refine mx 4 [] follows ?_ | refine mx 3 [] follows ?_ | refine mx 2 [] follows ?_ | refine mx 1 [] follows ?_ | refine mx 0 [] follows ?_ | fail); (simp only [go_sem, hd, int_bne])) | (first | refine cd (hc := ht) (hK := ?_) | refine cm (hc := ht) (hK := ?_) | refine ct (hc := ht) (hK := ?_)); (simp only [go_sem]) | fail)
          all_goals (refine hR _ ?_; refine rat [] (hK := ⟨rfl, rfl⟩))
      · simp only [ruleAdd, srS, SR.tm, SR.code, SR.lab]
        simp only [E.tm, nd] at hn ⊢
        refine fn_in ?_; refine acl_in Tryz.func172 rfl isfn_172 (Nat.le_of_ble_eq_true rfl) (fun R hR => ?_); rw [Tryz.results172] at hR; refine wg_run ?_; (simp only [Tryz.f172, go_sem, hw])
        repeat' (first | (first | (simp only [go_sem, hw, int_bne]) | (((first | refine sp1 ?_ ?_ | refine sp2 ?_ ?_ | refine sp3 ?_ ?_ | refine sp4 ?_ ?_ | refine sp5 ?_ ?_ | refine sp6 ?_ ?_ | refine sp7 ?_ ?_) <;> intro hb) <;> (simp only [go_sem, hb, hw, int_bne])) | ((first | refine wm_done ?_ | refine wt_done ?_ | refine wg_run ?_ | refine fk ?_ ?_) <;> (simp only [go_sem, hw, int_bne]))) | ((first | refine mx 6 [] follows ?_ | refine mx 5 [] follows ?_ | refine mx 4 [] follows ?_ | refine mx 3 [] follows ?_ | refine mx 2 [] follows ?_ | refine mx 1 [] follows ?_ | refine mx 0 [] follows ?_ | fail); (simp only [go_sem, hw, int_bne])) | (first | refine cd (hc := hn) (hK := ?_) | refine cm (hc := hn) (hK := ?_) | refine ct (hc := hn) (hK := ?_)); (simp only [go_sem]) | fail)
        all_goals (refine hR _ ?_; refine rat [] (hK := ⟨rfl, rfl⟩))
    | _ =>
      cases ad
      all_goals
        simp only [ruleAdd, ruleLess, srS, SR.tm, SR.code, SR.lab]
        simp only [E.tm, nd]
        refine fn_in ?_; refine acl_in Tryz.func172 rfl isfn_172 (Nat.le_of_ble_eq_true rfl) (fun R hR => ?_); rw [Tryz.results172] at hR; refine wg_run ?_; (simp only [Tryz.f172, go_sem])
        repeat' (first | (first | (simp only [go_sem, int_bne]) | (((first | refine sp1 ?_ ?_ | refine sp2 ?_ ?_ | refine sp3 ?_ ?_ | refine sp4 ?_ ?_ | refine sp5 ?_ ?_ | refine sp6 ?_ ?_ | refine sp7 ?_ ?_) <;> intro hb) <;> (simp only [go_sem, hb, int_bne])) | ((first | refine wm_done ?_ | refine wt_done ?_ | refine wg_run ?_ | refine fk ?_ ?_) <;> (simp only [go_sem, int_bne]))) | ((first | refine mx 6 [] follows ?_ | refine mx 5 [] follows ?_ | refine mx 4 [] follows ?_ | refine mx 3 [] follows ?_ | refine mx 2 [] follows ?_ | refine mx 1 [] follows ?_ | refine mx 0 [] follows ?_ | fail); (simp only [go_sem, int_bne])) | fail)
        all_goals (refine hR _ ?_; refine rat [] (hK := ⟨rfl, rfl⟩))
  | _ =>
    cases ad
    all_goals
      simp only [ruleAdd, ruleLess, srS, SR.tm, SR.code, SR.lab]
      simp only [E.tm, nd]
      refine fn_in ?_; refine acl_in Tryz.func172 rfl isfn_172 (Nat.le_of_ble_eq_true rfl) (fun R hR => ?_); rw [Tryz.results172] at hR; refine wg_run ?_; (simp only [Tryz.f172, go_sem])
      repeat' (first | (first | (simp only [go_sem, int_bne]) | (((first | refine sp1 ?_ ?_ | refine sp2 ?_ ?_ | refine sp3 ?_ ?_ | refine sp4 ?_ ?_ | refine sp5 ?_ ?_ | refine sp6 ?_ ?_ | refine sp7 ?_ ?_) <;> intro hb) <;> (simp only [go_sem, hb, int_bne])) | ((first | refine wm_done ?_ | refine wt_done ?_ | refine wg_run ?_ | refine fk ?_ ?_) <;> (simp only [go_sem, int_bne]))) | ((first | refine mx 6 [] follows ?_ | refine mx 5 [] follows ?_ | refine mx 4 [] follows ?_ | refine mx 3 [] follows ?_ | refine mx 2 [] follows ?_ | refine mx 1 [] follows ?_ | refine mx 0 [] follows ?_ | fail); (simp only [go_sem, int_bne])) | fail)
      all_goals (refine hR _ ?_; refine rat [] (hK := ⟨rfl, rfl⟩))
theorem sReduce (e : E) (h : e.wf = true) (hz : e.tm.size < 100000000) (hi : (e.tm.kind == 9) = false) : AFn Tryz.prog 120 [.agg (teC e.tm)] (srS e.red) := by
  cases e with
  | app a b =>
    rw [red_app]
    simp only [E.wf, Bool.and_eq_true] at h
    simp only [E.tm, nd, Tm.size, Tm.sizes] at hz
    have h1 := sApply a b h.1 h.2 (by omega) (by omega)
    simp only [E.tm, nd]
    unfold srS at h1 ⊢
    refine fn_in ?_; refine acl_in Tryz.func120 rfl isfn_120 (Nat.le_of_ble_eq_true rfl) (fun R hR => ?_); rw [Tryz.results120] at hR; refine wg_run ?_; (simp only [Tryz.f120, go_sem])
    repeat' (first | (first | (simp only [go_sem, int_bne]) | (((first | refine sp1 ?_ ?_ | refine sp2 ?_ ?_ | refine sp3 ?_ ?_ | refine sp4 ?_ ?_ | refine sp5 ?_ ?_ | refine sp6 ?_ ?_ | refine sp7 ?_ ?_) <;> intro hb) <;> (simp only [go_sem, hb, int_bne])) | ((first | refine wm_done ?_ | refine wt_done ?_ | refine wg_run ?_ | refine fk ?_ ?_) <;> (simp only [go_sem, int_bne]))) | ((first | refine mx 6 [] follows ?_ | refine mx 5 [] follows ?_ | refine mx 4 [] follows ?_ | refine mx 3 [] follows ?_ | refine mx 2 [] follows ?_ | refine mx 1 [] follows ?_ | refine mx 0 [] follows ?_ | fail); (simp only [go_sem, int_bne])) | (first | refine cd (hc := h1) (hK := ?_) | refine cm (hc := h1) (hK := ?_) | refine ct (hc := h1) (hK := ?_)); (simp only [go_sem]) | fail)
    all_goals (refine hR _ ?_; refine rat [] (hK := ⟨rfl, rfl⟩))
  | add a b =>
    rw [red_add]
    simp only [E.wf, Bool.and_eq_true] at h
    have h1 := sNumber a b h.1 h.2 true
    simp only [E.tm, nd]
    unfold srS at h1 ⊢
    refine fn_in ?_; refine acl_in Tryz.func120 rfl isfn_120 (Nat.le_of_ble_eq_true rfl) (fun R hR => ?_); rw [Tryz.results120] at hR; refine wg_run ?_; (simp only [Tryz.f120, go_sem])
    repeat' (first | (first | (simp only [go_sem, int_bne]) | (((first | refine sp1 ?_ ?_ | refine sp2 ?_ ?_ | refine sp3 ?_ ?_ | refine sp4 ?_ ?_ | refine sp5 ?_ ?_ | refine sp6 ?_ ?_ | refine sp7 ?_ ?_) <;> intro hb) <;> (simp only [go_sem, hb, int_bne])) | ((first | refine wm_done ?_ | refine wt_done ?_ | refine wg_run ?_ | refine fk ?_ ?_) <;> (simp only [go_sem, int_bne]))) | ((first | refine mx 6 [] follows ?_ | refine mx 5 [] follows ?_ | refine mx 4 [] follows ?_ | refine mx 3 [] follows ?_ | refine mx 2 [] follows ?_ | refine mx 1 [] follows ?_ | refine mx 0 [] follows ?_ | fail); (simp only [go_sem, int_bne])) | (first | refine cd (hc := h1) (hK := ?_) | refine cm (hc := h1) (hK := ?_) | refine ct (hc := h1) (hK := ?_)); (simp only [go_sem]) | fail)
    all_goals (refine hR _ ?_; refine rat [] (hK := ⟨rfl, rfl⟩))
  | less a b =>
    rw [red_less]
    simp only [E.wf, Bool.and_eq_true] at h
    have h1 := sNumber a b h.1 h.2 false
    simp only [E.tm, nd]
    unfold srS at h1 ⊢
    refine fn_in ?_; refine acl_in Tryz.func120 rfl isfn_120 (Nat.le_of_ble_eq_true rfl) (fun R hR => ?_); rw [Tryz.results120] at hR; refine wg_run ?_; (simp only [Tryz.f120, go_sem])
    repeat' (first | (first | (simp only [go_sem, int_bne]) | (((first | refine sp1 ?_ ?_ | refine sp2 ?_ ?_ | refine sp3 ?_ ?_ | refine sp4 ?_ ?_ | refine sp5 ?_ ?_ | refine sp6 ?_ ?_ | refine sp7 ?_ ?_) <;> intro hb) <;> (simp only [go_sem, hb, int_bne])) | ((first | refine wm_done ?_ | refine wt_done ?_ | refine wg_run ?_ | refine fk ?_ ?_) <;> (simp only [go_sem, int_bne]))) | ((first | refine mx 6 [] follows ?_ | refine mx 5 [] follows ?_ | refine mx 4 [] follows ?_ | refine mx 3 [] follows ?_ | refine mx 2 [] follows ?_ | refine mx 1 [] follows ?_ | refine mx 0 [] follows ?_ | fail); (simp only [go_sem, int_bne])) | (first | refine cd (hc := h1) (hK := ?_) | refine cm (hc := h1) (hK := ?_) | refine ct (hc := h1) (hK := ?_)); (simp only [go_sem]) | fail)
    all_goals (refine hR _ ?_; refine rat [] (hK := ⟨rfl, rfl⟩))
  | fst a =>
    rw [red_fst]
    simp only [E.wf] at h
    have h1 := sPart a h true
    simp only [E.tm, nd]
    unfold srS at h1 ⊢
    refine fn_in ?_; refine acl_in Tryz.func120 rfl isfn_120 (Nat.le_of_ble_eq_true rfl) (fun R hR => ?_); rw [Tryz.results120] at hR; refine wg_run ?_; (simp only [Tryz.f120, go_sem])
    repeat' (first | (first | (simp only [go_sem, int_bne]) | (((first | refine sp1 ?_ ?_ | refine sp2 ?_ ?_ | refine sp3 ?_ ?_ | refine sp4 ?_ ?_ | refine sp5 ?_ ?_ | refine sp6 ?_ ?_ | refine sp7 ?_ ?_) <;> intro hb) <;> (simp only [go_sem, hb, int_bne])) | ((first | refine wm_done ?_ | refine wt_done ?_ | refine wg_run ?_ | refine fk ?_ ?_) <;> (simp only [go_sem, int_bne]))) | ((first | refine mx 6 [] follows ?_ | refine mx 5 [] follows ?_ | refine mx 4 [] follows ?_ | refine mx 3 [] follows ?_ | refine mx 2 [] follows ?_ | refine mx 1 [] follows ?_ | refine mx 0 [] follows ?_ | fail); (simp only [go_sem, int_bne])) | (first | refine cd (hc := h1) (hK := ?_) | refine cm (hc := h1) (hK := ?_) | refine ct (hc := h1) (hK := ?_)); (simp only [go_sem]) | fail)
    all_goals (refine hR _ ?_; refine rat [] (hK := ⟨rfl, rfl⟩))
  | snd a =>
    rw [red_snd]
    simp only [E.wf] at h
    have h1 := sPart a h false
    simp only [E.tm, nd]
    unfold srS at h1 ⊢
    refine fn_in ?_; refine acl_in Tryz.func120 rfl isfn_120 (Nat.le_of_ble_eq_true rfl) (fun R hR => ?_); rw [Tryz.results120] at hR; refine wg_run ?_; (simp only [Tryz.f120, go_sem])
    repeat' (first | (first | (simp only [go_sem, int_bne]) | (((first | refine sp1 ?_ ?_ | refine sp2 ?_ ?_ | refine sp3 ?_ ?_ | refine sp4 ?_ ?_ | refine sp5 ?_ ?_ | refine sp6 ?_ ?_ | refine sp7 ?_ ?_) <;> intro hb) <;> (simp only [go_sem, hb, int_bne])) | ((first | refine wm_done ?_ | refine wt_done ?_ | refine wg_run ?_ | refine fk ?_ ?_) <;> (simp only [go_sem, int_bne]))) | ((first | refine mx 6 [] follows ?_ | refine mx 5 [] follows ?_ | refine mx 4 [] follows ?_ | refine mx 3 [] follows ?_ | refine mx 2 [] follows ?_ | refine mx 1 [] follows ?_ | refine mx 0 [] follows ?_ | fail); (simp only [go_sem, int_bne])) | (first | refine cd (hc := h1) (hK := ?_) | refine cm (hc := h1) (hK := ?_) | refine ct (hc := h1) (hK := ?_)); (simp only [go_sem]) | fail)
    all_goals (refine hR _ ?_; refine rat [] (hK := ⟨rfl, rfl⟩))
  | cast s t l a =>
    rw [red_cast]
    have h1 := sConvert s t l a h
    simp only [E.tm] at h1 ⊢
    unfold srS at h1 ⊢
    refine fn_in ?_; refine acl_in Tryz.func120 rfl isfn_120 (Nat.le_of_ble_eq_true rfl) (fun R hR => ?_); rw [Tryz.results120] at hR; refine wg_run ?_; (simp only [Tryz.f120, go_sem])
    repeat' (first | (first | (simp only [go_sem, int_bne]) | (((first | refine sp1 ?_ ?_ | refine sp2 ?_ ?_ | refine sp3 ?_ ?_ | refine sp4 ?_ ?_ | refine sp5 ?_ ?_ | refine sp6 ?_ ?_ | refine sp7 ?_ ?_) <;> intro hb) <;> (simp only [go_sem, hb, int_bne])) | ((first | refine wm_done ?_ | refine wt_done ?_ | refine wg_run ?_ | refine fk ?_ ?_) <;> (simp only [go_sem, int_bne]))) | ((first | refine mx 6 [] follows ?_ | refine mx 5 [] follows ?_ | refine mx 4 [] follows ?_ | refine mx 3 [] follows ?_ | refine mx 2 [] follows ?_ | refine mx 1 [] follows ?_ | refine mx 0 [] follows ?_ | fail); (simp only [go_sem, int_bne])) | (first | refine cd (hc := h1) (hK := ?_) | refine cm (hc := h1) (hK := ?_) | refine ct (hc := h1) (hK := ?_)); (simp only [go_sem]) | fail)
    all_goals (refine hR _ ?_; refine rat [] (hK := ⟨rfl, rfl⟩))
  | ite a b c => simp [E.tm, nd, Tm.kind] at hi
  | _ =>
    simp only [E.red, E.ruleI, E.castR, srS, SR.tm, SR.code, SR.lab]
    simp only [E.tm, nd]
    refine fn_in ?_; refine acl_in Tryz.func120 rfl isfn_120 (Nat.le_of_ble_eq_true rfl) (fun R hR => ?_); rw [Tryz.results120] at hR; refine wg_run ?_; (simp only [Tryz.f120, go_sem])
    repeat' (first | (first | (simp only [go_sem, int_bne]) | (((first | refine sp1 ?_ ?_ | refine sp2 ?_ ?_ | refine sp3 ?_ ?_ | refine sp4 ?_ ?_ | refine sp5 ?_ ?_ | refine sp6 ?_ ?_ | refine sp7 ?_ ?_) <;> intro hb) <;> (simp only [go_sem, hb, int_bne])) | ((first | refine wm_done ?_ | refine wt_done ?_ | refine wg_run ?_ | refine fk ?_ ?_) <;> (simp only [go_sem, int_bne]))) | ((first | refine mx 6 [] follows ?_ | refine mx 5 [] follows ?_ | refine mx 4 [] follows ?_ | refine mx 3 [] follows ?_ | refine mx 2 [] follows ?_ | refine mx 1 [] follows ?_ | refine mx 0 [] follows ?_ | fail); (simp only [go_sem, int_bne])) | fail)
    all_goals (refine hR _ ?_; refine rat [] (hK := ⟨rfl, rfl⟩))
end Go.Proofs.YtnaebafafhamjaaGreat
