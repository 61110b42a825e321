/- Texts of the proof, one behind another. -/
import Derived.Test.YtjmicohbnpbemaaGreatKE22
set_option linter.unusedSimpArgs false
set_option linter.unusedVariables false
/- Steps of terms with casts, in the program. On shadows. -/
namespace Go.Proofs.Grad
/-- what the program's step hands back: a term that counts only if a step was taken -/
def E.so : E → Tm
  | .app a b => match a.val with | false => nd 6 [a.so, b.tm] | true => (match b.val with | false => nd 6 [a.tm, b.so] | true => (ruleApp a b).tm)
  | .add a b => match a.val with | false => nd 7 [a.so, b.tm] | true => (match b.val with | false => nd 7 [a.tm, b.so] | true => (ruleAdd a b).tm)
  | .less a b => match a.val with | false => nd 8 [a.so, b.tm] | true => (match b.val with | false => nd 8 [a.tm, b.so] | true => (ruleLess a b).tm)
  | .ite a b c => match a.val with | false => nd 9 [a.so, b.tm, c.tm] | true => (ruleIte a b c).tm
  | .pair a b => match a.val with | false => nd 10 [a.so, b.tm] | true => (match b.val with | false => nd 10 [a.tm, b.so] | true => tm0)
  | .fst a => match a.val with | false => nd 11 [a.so] | true => (ruleFst a).tm
  | .snd a => match a.val with | false => nd 12 [a.so] | true => (ruleSnd a).tm
  | .cast s t l a => match a.val with | false => .mk 14 ByteArray.empty 0 t.ty s.ty l [a.so] | true => (ruleCast s t l a).tm
  | _ => tm0
theorem SR.map_code {r : SR} {f : E → E} : (r.map f).code = r.code := by cases r <;> rfl
theorem SR.map_lab {r : SR} {f : E → E} : (r.map f).lab = r.lab := by cases r <;> rfl
theorem SR.map_took {r : SR} {f : E → E} {e : E} (h : r.map f = .took e) : ∃ x, r = .took x ∧ e = f x := by
  cases r with
  | took x => simp only [SR.map, SR.took.injEq] at h; exact ⟨x, rfl, h.symm⟩
  | _ => simp [SR.map] at h
theorem E.so_took (e : E) : ∀ x : E, e.val = false → e.step = .took x → e.so = x.tm := by
  induction e with
  | app a b iha ihb =>
    intro x hv h
    simp only [E.step, E.so] at h ⊢
    cases ea : a.val
    · simp only [ea] at h ⊢; obtain ⟨y, hy, rfl⟩ := SR.map_took h; rw [iha y ea hy]; rfl
    · simp only [ea] at h ⊢
      cases eb : b.val
      · simp only [eb] at h ⊢; obtain ⟨y, hy, rfl⟩ := SR.map_took h; rw [ihb y eb hy]; rfl
      · simp only [eb] at h ⊢; rw [h]; rfl
  | add a b iha ihb =>
    intro x hv h
    simp only [E.step, E.so] at h ⊢
    cases ea : a.val
    · simp only [ea] at h ⊢; obtain ⟨y, hy, rfl⟩ := SR.map_took h; rw [iha y ea hy]; rfl
    · simp only [ea] at h ⊢
      cases eb : b.val
      · simp only [eb] at h ⊢; obtain ⟨y, hy, rfl⟩ := SR.map_took h; rw [ihb y eb hy]; rfl
      · simp only [eb] at h ⊢; rw [h]; rfl
  | less a b iha ihb =>
    intro x hv h
    simp only [E.step, E.so] at h ⊢
    cases ea : a.val
    · simp only [ea] at h ⊢; obtain ⟨y, hy, rfl⟩ := SR.map_took h; rw [iha y ea hy]; rfl
    · simp only [ea] at h ⊢
      cases eb : b.val
      · simp only [eb] at h ⊢; obtain ⟨y, hy, rfl⟩ := SR.map_took h; rw [ihb y eb hy]; rfl
      · simp only [eb] at h ⊢; rw [h]; rfl
  | pair a b iha ihb =>
    intro x hv h
    simp only [E.step, E.so] at h ⊢
    cases ea : a.val
    · simp only [ea] at h ⊢; obtain ⟨y, hy, rfl⟩ := SR.map_took h; rw [iha y ea hy]; rfl
    · simp only [ea] at h ⊢
      cases eb : b.val
      · simp only [eb] at h ⊢; obtain ⟨y, hy, rfl⟩ := SR.map_took h; rw [ihb y eb hy]; rfl
      · simp [eb] at h
  | ite a b c iha ihb ihc =>
    intro x hv h
    simp only [E.step, E.so] at h ⊢
    cases ea : a.val
    · simp only [ea] at h ⊢; obtain ⟨y, hy, rfl⟩ := SR.map_took h; rw [iha y ea hy]; rfl
    · simp only [ea] at h ⊢; rw [h]; rfl
  | fst a ih | snd a ih | cast s t l a ih =>
    intro x hv h
    simp only [E.step, E.so] at h ⊢
    cases ea : a.val
    · simp only [ea] at h ⊢; obtain ⟨y, hy, rfl⟩ := SR.map_took h; rw [ih y ea hy]; rfl
    · simp only [ea] at h ⊢; rw [h]; rfl
  | _ => intro x hv h; simp [E.step] at h
end Go.Proofs.Grad
namespace Go.Proofs.YtjmicohbnpbemaaGreat
open Go.RowKit Go.Proofs.Sh Go.Proofs.Grad
set_option maxRecDepth 100000
set_option maxHeartbeats 8000000
theorem iCounts (t : Tm) : AFn Tryz.prog 96 [.agg (teC t)] (.one (.sc (.int .i64 (match t.kind == 9 with | true => 1 | false => (t.kids.length : Int))))) := by
  cases h : (t.kind == 9)
  all_goals
    refine fn_in ?_; refine acl_in Tryz.func96 rfl isfn_96 (Nat.le_of_ble_eq_true rfl) (fun R hR => ?_); rw [Tryz.results96] at hR; refine wg_run ?_; (simp only [Tryz.f96, go_sem, h])
    repeat' (first | (simp only [go_sem, h]) | (((first | apply sp1 | apply sp2 | apply sp3 | apply sp4 | apply sp5 | apply sp6 | apply sp7) <;> intro hb) <;> (simp only [go_sem, hb, h])) | ((first | apply wm_done | apply wt_done | apply wg_run | refine fk ?_ ?_) <;> (simp only [go_sem, h])))
    all_goals (refine hR _ ?_; refine rat [] (hK := ⟨rfl, rfl⟩))
def CloneT (l : List Tm) (r : AV) (H' : List Blk) : Prop := r = .one (.row 9 0 l.length) ∧ H' = [⟨9, 28, .mut, teR l⟩]
theorem cloneT (t : Tm) (l : List Tm) (hl : l.length < 1000) : ACl Tryz.prog 97 [.one (.sl (teR (t :: l)))] [] (CloneT (t :: l)) := by
  have hcap : (l.length + 1) * 128 ≤ 140737488355328 := by omega
  refine acl_in Tryz.func97 rfl isfn_97 (Nat.le_of_ble_eq_true rfl) (fun R hR => ?_); rw [Tryz.results97] at hR; refine wg_run ?_; (simp only [Tryz.f97, go_sem, hcap])
  repeat' (first | (first | (simp only [go_sem, hcap]) | (((first | apply sp1 | apply sp2 | apply sp3 | apply sp4 | apply sp5 | apply sp6 | apply sp7) <;> intro hb) <;> (simp only [go_sem, hb, hcap])) | ((first | apply wm_done | apply wt_done | apply wg_run | refine fk ?_ ?_) <;> (simp only [go_sem, hcap]))) | ((first | refine mxq6 [] ?_ | refine mxq5 [] ?_ | refine mxq4 [] ?_ | refine mxq3 [] ?_ | refine mxq2 [] ?_ | refine mxq1 [] ?_ | refine mxq0 [] ?_ | fail); (simp only [go_sem, hcap])) | fail)
  exact hR _ (rwn [1] (hK := ⟨rfl, rfl⟩))
def stT (e : E) : AV := .tup [.agg (teC e.so), .one (.sc (.int .i64 e.step.code)), .one (.sc (.int .i64 e.step.lab))]
theorem red_cases (e : E) : (∃ x, e.ruleI = some x ∧ e.red = .took x) ∨ (e.ruleI = none ∧ e.red = e.castR) := by
  unfold E.red
  cases h : e.ruleI with
  | some x => exact .inl ⟨x, rfl, rfl⟩
  | none => exact .inr ⟨rfl, rfl⟩
theorem iStep (e : E) : e.wf = true → e.noA = true → e.val = false → e.tm.size < 100000000 → AFn Tryz.prog 54 [.agg (teC e.tm)] (stT e) := by
  induction e with
  | app a b iha ihb =>
    intro hw hn hv hz
    have hc := iCounts (E.app a b).tm
    have hr := iRule (.app a b) hw
    have hcr := iCastRule (.app a b) hw hz (by simp [E.tm, nd, Tm.kids])
    have hred := red_app a b
    simp only [E.wf, E.noA, Bool.and_eq_true] at hw hn
    simp only [E.tm, nd, Tm.size, Tm.sizes] at hz
    have va := iIsVal 100000000 (by omega) a.tm (by omega)
    have vb := iIsVal 100000000 (by omega) b.tm (by omega)
    rw [E.val_tm] at va vb
    have hcl := cloneT a.tm [b.tm] (by simp)
    simp only [stT, E.so, E.step]
    cases ea : a.val
    · rw [ea] at va
      have h1 := iha hw.1 hn.1 ea (by omega)
      simp only [stT] at h1
      simp only [SR.map_code, SR.map_lab]
      simp only [E.tm, nd] at hc ⊢
      refine fn_in ?_; refine acl_in Tryz.func54 rfl isfn_54 (Nat.le_of_ble_eq_true rfl) (fun R hR => ?_); rw [Tryz.results54] at hR; refine wg_run ?_; (simp only [Tryz.f54, go_sem])
      repeat' (first | (first | (simp only [go_sem, int_bne]) | (((first | apply sp1 | apply sp2 | apply sp3 | apply sp4 | apply sp5 | apply sp6 | apply sp7) <;> intro hb) <;> (simp only [go_sem, hb, int_bne])) | ((first | apply wm_done | apply wt_done | apply wg_run | refine fk ?_ ?_) <;> (simp only [go_sem, int_bne]))) | (first | (refine wl_next (wg_run ?_); (simp only [go_sem])) | refine wd_rounds 6 ?_) | ((first | refine mxq6 [] ?_ | refine mxq5 [] ?_ | refine mxq4 [] ?_ | refine mxq3 [] ?_ | refine mxq2 [] ?_ | refine mxq1 [] ?_ | refine mxq0 [] ?_ | fail); (simp only [go_sem, int_bne])) | (first | refine cdq ?_ (hc := hc) | refine cmq ?_ (hc := hc) | refine ctq ?_ (hc := hc)); (simp only [go_sem]) | (first | refine cdq ?_ (hc := va) | refine cmq ?_ (hc := va) | refine ctq ?_ (hc := va)); (simp only [go_sem]) | (first | refine cdq ?_ (hc := vb) | refine cmq ?_ (hc := vb) | refine ctq ?_ (hc := vb)); (simp only [go_sem]) | (first | refine cdq ?_ (hc := h1) | refine cmq ?_ (hc := h1) | refine ctq ?_ (hc := h1)); (simp only [go_sem]) | ((first | refine kdq [] ?_ (hc := hcl) | refine kmq [] ?_ (hc := hcl) | refine ktq [] ?_ (hc := hcl)); rintro _ _ ⟨rfl, rfl⟩ <;> (simp only [go_sem])) | fail)
      all_goals (refine hR _ ?_; refine rat [] (hK := ⟨rfl, rfl⟩))
    · rw [ea] at va
      simp only []
      cases eb : b.val
      · rw [eb] at vb
        have h1 := ihb hw.2 hn.2 eb (by omega)
        simp only [stT] at h1
        simp only [SR.map_code, SR.map_lab]
        simp only [E.tm, nd] at hc ⊢
        refine fn_in ?_; refine acl_in Tryz.func54 rfl isfn_54 (Nat.le_of_ble_eq_true rfl) (fun R hR => ?_); rw [Tryz.results54] at hR; refine wg_run ?_; (simp only [Tryz.f54, go_sem])
        repeat' (first | (first | (simp only [go_sem, int_bne]) | (((first | apply sp1 | apply sp2 | apply sp3 | apply sp4 | apply sp5 | apply sp6 | apply sp7) <;> intro hb) <;> (simp only [go_sem, hb, int_bne])) | ((first | apply wm_done | apply wt_done | apply wg_run | refine fk ?_ ?_) <;> (simp only [go_sem, int_bne]))) | (first | (refine wl_next (wg_run ?_); (simp only [go_sem])) | refine wd_rounds 6 ?_) | ((first | refine mxq6 [] ?_ | refine mxq5 [] ?_ | refine mxq4 [] ?_ | refine mxq3 [] ?_ | refine mxq2 [] ?_ | refine mxq1 [] ?_ | refine mxq0 [] ?_ | fail); (simp only [go_sem, int_bne])) | (first | refine cdq ?_ (hc := hc) | refine cmq ?_ (hc := hc) | refine ctq ?_ (hc := hc)); (simp only [go_sem]) | (first | refine cdq ?_ (hc := va) | refine cmq ?_ (hc := va) | refine ctq ?_ (hc := va)); (simp only [go_sem]) | (first | refine cdq ?_ (hc := vb) | refine cmq ?_ (hc := vb) | refine ctq ?_ (hc := vb)); (simp only [go_sem]) | (first | refine cdq ?_ (hc := h1) | refine cmq ?_ (hc := h1) | refine ctq ?_ (hc := h1)); (simp only [go_sem]) | ((first | refine kdq [] ?_ (hc := hcl) | refine kmq [] ?_ (hc := hcl) | refine ktq [] ?_ (hc := hcl)); rintro _ _ ⟨rfl, rfl⟩ <;> (simp only [go_sem])) | fail)
        all_goals (refine hR _ ?_; refine rat [] (hK := ⟨rfl, rfl⟩))
      · rw [eb] at vb
        simp only []
        rcases red_cases (.app a b) with ⟨x, e1, e2⟩ | ⟨e1, e2⟩
        all_goals
          rw [e2] at hred
          rw [← hred]
          rw [e1] at hr
          simp only [ruT, srT, SR.tm, SR.code, SR.lab] at hr hcr ⊢
          simp only [E.tm, nd] at hc hr hcr ⊢
          refine fn_in ?_; refine acl_in Tryz.func54 rfl isfn_54 (Nat.le_of_ble_eq_true rfl) (fun R hR => ?_); rw [Tryz.results54] at hR; refine wg_run ?_; (simp only [Tryz.f54, go_sem])
          repeat' (first | (first | (simp only [go_sem, int_bne]) | (((first | apply sp1 | apply sp2 | apply sp3 | apply sp4 | apply sp5 | apply sp6 | apply sp7) <;> intro hb) <;> (simp only [go_sem, hb, int_bne])) | ((first | apply wm_done | apply wt_done | apply wg_run | refine fk ?_ ?_) <;> (simp only [go_sem, int_bne]))) | (first | (refine wl_next (wg_run ?_); (simp only [go_sem])) | refine wd_rounds 6 ?_) | ((first | refine mxq6 [] ?_ | refine mxq5 [] ?_ | refine mxq4 [] ?_ | refine mxq3 [] ?_ | refine mxq2 [] ?_ | refine mxq1 [] ?_ | refine mxq0 [] ?_ | fail); (simp only [go_sem, int_bne])) | (first | refine cdq ?_ (hc := hc) | refine cmq ?_ (hc := hc) | refine ctq ?_ (hc := hc)); (simp only [go_sem]) | (first | refine cdq ?_ (hc := va) | refine cmq ?_ (hc := va) | refine ctq ?_ (hc := va)); (simp only [go_sem]) | (first | refine cdq ?_ (hc := vb) | refine cmq ?_ (hc := vb) | refine ctq ?_ (hc := vb)); (simp only [go_sem]) | (first | refine cdq ?_ (hc := hr) | refine cmq ?_ (hc := hr) | refine ctq ?_ (hc := hr)); (simp only [go_sem]) | (first | refine cdq ?_ (hc := hcr) | refine cmq ?_ (hc := hcr) | refine ctq ?_ (hc := hcr)); (simp only [go_sem]) | fail)
          all_goals (refine hR _ ?_; refine rat [] (hK := ⟨rfl, rfl⟩))
  | add a b iha ihb =>
    intro hw hn hv hz
    have hc := iCounts (E.add a b).tm
    have hr := iRule (.add a b) hw
    have hcr := iCastRule (.add a b) hw hz (by simp [E.tm, nd, Tm.kids])
    have hred := red_add a b
    simp only [E.wf, E.noA, Bool.and_eq_true] at hw hn
    simp only [E.tm, nd, Tm.size, Tm.sizes] at hz
    have va := iIsVal 100000000 (by omega) a.tm (by omega)
    have vb := iIsVal 100000000 (by omega) b.tm (by omega)
    rw [E.val_tm] at va vb
    have hcl := cloneT a.tm [b.tm] (by simp)
    simp only [stT, E.so, E.step]
    cases ea : a.val
    · rw [ea] at va
      have h1 := iha hw.1 hn.1 ea (by omega)
      simp only [stT] at h1
      simp only [SR.map_code, SR.map_lab]
      simp only [E.tm, nd] at hc ⊢
      refine fn_in ?_; refine acl_in Tryz.func54 rfl isfn_54 (Nat.le_of_ble_eq_true rfl) (fun R hR => ?_); rw [Tryz.results54] at hR; refine wg_run ?_; (simp only [Tryz.f54, go_sem])
      repeat' (first | (first | (simp only [go_sem, int_bne]) | (((first | apply sp1 | apply sp2 | apply sp3 | apply sp4 | apply sp5 | apply sp6 | apply sp7) <;> intro hb) <;> (simp only [go_sem, hb, int_bne])) | ((first | apply wm_done | apply wt_done | apply wg_run | refine fk ?_ ?_) <;> (simp only [go_sem, int_bne]))) | (first | (refine wl_next (wg_run ?_); (simp only [go_sem])) | refine wd_rounds 6 ?_) | ((first | refine mxq6 [] ?_ | refine mxq5 [] ?_ | refine mxq4 [] ?_ | refine mxq3 [] ?_ | refine mxq2 [] ?_ | refine mxq1 [] ?_ | refine mxq0 [] ?_ | fail); (simp only [go_sem, int_bne])) | (first | refine cdq ?_ (hc := hc) | refine cmq ?_ (hc := hc) | refine ctq ?_ (hc := hc)); (simp only [go_sem]) | (first | refine cdq ?_ (hc := va) | refine cmq ?_ (hc := va) | refine ctq ?_ (hc := va)); (simp only [go_sem]) | (first | refine cdq ?_ (hc := vb) | refine cmq ?_ (hc := vb) | refine ctq ?_ (hc := vb)); (simp only [go_sem]) | (first | refine cdq ?_ (hc := h1) | refine cmq ?_ (hc := h1) | refine ctq ?_ (hc := h1)); (simp only [go_sem]) | ((first | refine kdq [] ?_ (hc := hcl) | refine kmq [] ?_ (hc := hcl) | refine ktq [] ?_ (hc := hcl)); rintro _ _ ⟨rfl, rfl⟩ <;> (simp only [go_sem])) | fail)
      all_goals (refine hR _ ?_; refine rat [] (hK := ⟨rfl, rfl⟩))
    · rw [ea] at va
      simp only []
      cases eb : b.val
      · rw [eb] at vb
        have h1 := ihb hw.2 hn.2 eb (by omega)
        simp only [stT] at h1
        simp only [SR.map_code, SR.map_lab]
        simp only [E.tm, nd] at hc ⊢
        refine fn_in ?_; refine acl_in Tryz.func54 rfl isfn_54 (Nat.le_of_ble_eq_true rfl) (fun R hR => ?_); rw [Tryz.results54] at hR; refine wg_run ?_; (simp only [Tryz.f54, go_sem])
        repeat' (first | (first | (simp only [go_sem, int_bne]) | (((first | apply sp1 | apply sp2 | apply sp3 | apply sp4 | apply sp5 | apply sp6 | apply sp7) <;> intro hb) <;> (simp only [go_sem, hb, int_bne])) | ((first | apply wm_done | apply wt_done | apply wg_run | refine fk ?_ ?_) <;> (simp only [go_sem, int_bne]))) | (first | (refine wl_next (wg_run ?_); (simp only [go_sem])) | refine wd_rounds 6 ?_) | ((first | refine mxq6 [] ?_ | refine mxq5 [] ?_ | refine mxq4 [] ?_ | refine mxq3 [] ?_ | refine mxq2 [] ?_ | refine mxq1 [] ?_ | refine mxq0 [] ?_ | fail); (simp only [go_sem, int_bne])) | (first | refine cdq ?_ (hc := hc) | refine cmq ?_ (hc := hc) | refine ctq ?_ (hc := hc)); (simp only [go_sem]) | (first | refine cdq ?_ (hc := va) | refine cmq ?_ (hc := va) | refine ctq ?_ (hc := va)); (simp only [go_sem]) | (first | refine cdq ?_ (hc := vb) | refine cmq ?_ (hc := vb) | refine ctq ?_ (hc := vb)); (simp only [go_sem]) | (first | refine cdq ?_ (hc := h1) | refine cmq ?_ (hc := h1) | refine ctq ?_ (hc := h1)); (simp only [go_sem]) | ((first | refine kdq [] ?_ (hc := hcl) | refine kmq [] ?_ (hc := hcl) | refine ktq [] ?_ (hc := hcl)); rintro _ _ ⟨rfl, rfl⟩ <;> (simp only [go_sem])) | fail)
        all_goals (refine hR _ ?_; refine rat [] (hK := ⟨rfl, rfl⟩))
      · rw [eb] at vb
        simp only []
        rcases red_cases (.add a b) with ⟨x, e1, e2⟩ | ⟨e1, e2⟩
        all_goals
          rw [e2] at hred
          rw [← hred]
          rw [e1] at hr
          simp only [ruT, srT, SR.tm, SR.code, SR.lab] at hr hcr ⊢
          simp only [E.tm, nd] at hc hr hcr ⊢
          refine fn_in ?_; refine acl_in Tryz.func54 rfl isfn_54 (Nat.le_of_ble_eq_true rfl) (fun R hR => ?_); rw [Tryz.results54] at hR; refine wg_run ?_; (simp only [Tryz.f54, go_sem])
          repeat' (first | (first | (simp only [go_sem, int_bne]) | (((first | apply sp1 | apply sp2 | apply sp3 | apply sp4 | apply sp5 | apply sp6 | apply sp7) <;> intro hb) <;> (simp only [go_sem, hb, int_bne])) | ((first | apply wm_done | apply wt_done | apply wg_run | refine fk ?_ ?_) <;> (simp only [go_sem, int_bne]))) | (first | (refine wl_next (wg_run ?_); (simp only [go_sem])) | refine wd_rounds 6 ?_) | ((first | refine mxq6 [] ?_ | refine mxq5 [] ?_ | refine mxq4 [] ?_ | refine mxq3 [] ?_ | refine mxq2 [] ?_ | refine mxq1 [] ?_ | refine mxq0 [] ?_ | fail); (simp only [go_sem, int_bne])) | (first | refine cdq ?_ (hc := hc) | refine cmq ?_ (hc := hc) | refine ctq ?_ (hc := hc)); (simp only [go_sem]) | (first | refine cdq ?_ (hc := va) | refine cmq ?_ (hc := va) | refine ctq ?_ (hc := va)); (simp only [go_sem]) | (first | refine cdq ?_ (hc := vb) | refine cmq ?_ (hc := vb) | refine ctq ?_ (hc := vb)); (simp only [go_sem]) | (first | refine cdq ?_ (hc := hr) | refine cmq ?_ (hc := hr) | refine ctq ?_ (hc := hr)); (simp only [go_sem]) | (first | refine cdq ?_ (hc := hcr) | refine cmq ?_ (hc := hcr) | refine ctq ?_ (hc := hcr)); (simp only [go_sem]) | fail)
          all_goals (refine hR _ ?_; refine rat [] (hK := ⟨rfl, rfl⟩))
  | less a b iha ihb =>
    intro hw hn hv hz
    have hc := iCounts (E.less a b).tm
    have hr := iRule (.less a b) hw
    have hcr := iCastRule (.less a b) hw hz (by simp [E.tm, nd, Tm.kids])
    have hred := red_less a b
    simp only [E.wf, E.noA, Bool.and_eq_true] at hw hn
    simp only [E.tm, nd, Tm.size, Tm.sizes] at hz
    have va := iIsVal 100000000 (by omega) a.tm (by omega)
    have vb := iIsVal 100000000 (by omega) b.tm (by omega)
    rw [E.val_tm] at va vb
    have hcl := cloneT a.tm [b.tm] (by simp)
    simp only [stT, E.so, E.step]
    cases ea : a.val
    · rw [ea] at va
      have h1 := iha hw.1 hn.1 ea (by omega)
      simp only [stT] at h1
      simp only [SR.map_code, SR.map_lab]
      simp only [E.tm, nd] at hc ⊢
      refine fn_in ?_; refine acl_in Tryz.func54 rfl isfn_54 (Nat.le_of_ble_eq_true rfl) (fun R hR => ?_); rw [Tryz.results54] at hR; refine wg_run ?_; (simp only [Tryz.f54, go_sem])
      repeat' (first | (first | (simp only [go_sem, int_bne]) | (((first | apply sp1 | apply sp2 | apply sp3 | apply sp4 | apply sp5 | apply sp6 | apply sp7) <;> intro hb) <;> (simp only [go_sem, hb, int_bne])) | ((first | apply wm_done | apply wt_done | apply wg_run | refine fk ?_ ?_) <;> (simp only [go_sem, int_bne]))) | (first | (refine wl_next (wg_run ?_); (simp only [go_sem])) | refine wd_rounds 6 ?_) | ((first | refine mxq6 [] ?_ | refine mxq5 [] ?_ | refine mxq4 [] ?_ | refine mxq3 [] ?_ | refine mxq2 [] ?_ | refine mxq1 [] ?_ | refine mxq0 [] ?_ | fail); (simp only [go_sem, int_bne])) | (first | refine cdq ?_ (hc := hc) | refine cmq ?_ (hc := hc) | refine ctq ?_ (hc := hc)); (simp only [go_sem]) | (first | refine cdq ?_ (hc := va) | refine cmq ?_ (hc := va) | refine ctq ?_ (hc := va)); (simp only [go_sem]) | (first | refine cdq ?_ (hc := vb) | refine cmq ?_ (hc := vb) | refine ctq ?_ (hc := vb)); (simp only [go_sem]) | (first | refine cdq ?_ (hc := h1) | refine cmq ?_ (hc := h1) | refine ctq ?_ (hc := h1)); (simp only [go_sem]) | ((first | refine kdq [] ?_ (hc := hcl) | refine kmq [] ?_ (hc := hcl) | refine ktq [] ?_ (hc := hcl)); rintro _ _ ⟨rfl, rfl⟩ <;> (simp only [go_sem])) | fail)
      all_goals (refine hR _ ?_; refine rat [] (hK := ⟨rfl, rfl⟩))
    · rw [ea] at va
      simp only []
      cases eb : b.val
      · rw [eb] at vb
        have h1 := ihb hw.2 hn.2 eb (by omega)
        simp only [stT] at h1
        simp only [SR.map_code, SR.map_lab]
        simp only [E.tm, nd] at hc ⊢
        refine fn_in ?_; refine acl_in Tryz.func54 rfl isfn_54 (Nat.le_of_ble_eq_true rfl) (fun R hR => ?_); rw [Tryz.results54] at hR; refine wg_run ?_; (simp only [Tryz.f54, go_sem])
        repeat' (first | (first | (simp only [go_sem, int_bne]) | (((first | apply sp1 | apply sp2 | apply sp3 | apply sp4 | apply sp5 | apply sp6 | apply sp7) <;> intro hb) <;> (simp only [go_sem, hb, int_bne])) | ((first | apply wm_done | apply wt_done | apply wg_run | refine fk ?_ ?_) <;> (simp only [go_sem, int_bne]))) | (first | (refine wl_next (wg_run ?_); (simp only [go_sem])) | refine wd_rounds 6 ?_) | ((first | refine mxq6 [] ?_ | refine mxq5 [] ?_ | refine mxq4 [] ?_ | refine mxq3 [] ?_ | refine mxq2 [] ?_ | refine mxq1 [] ?_ | refine mxq0 [] ?_ | fail); (simp only [go_sem, int_bne])) | (first | refine cdq ?_ (hc := hc) | refine cmq ?_ (hc := hc) | refine ctq ?_ (hc := hc)); (simp only [go_sem]) | (first | refine cdq ?_ (hc := va) | refine cmq ?_ (hc := va) | refine ctq ?_ (hc := va)); (simp only [go_sem]) | (first | refine cdq ?_ (hc := vb) | refine cmq ?_ (hc := vb) | refine ctq ?_ (hc := vb)); (simp only [go_sem]) | (first | refine cdq ?_ (hc := h1) | refine cmq ?_ (hc := h1) | refine ctq ?_ (hc := h1)); (simp only [go_sem]) | ((first | refine kdq [] ?_ (hc := hcl) | refine kmq [] ?_ (hc := hcl) | refine ktq [] ?_ (hc := hcl)); rintro _ _ ⟨rfl, rfl⟩ <;> (simp only [go_sem])) | fail)
        all_goals (refine hR _ ?_; refine rat [] (hK := ⟨rfl, rfl⟩))
      · rw [eb] at vb
        simp only []
        rcases red_cases (.less a b) with ⟨x, e1, e2⟩ | ⟨e1, e2⟩
        all_goals
          rw [e2] at hred
          rw [← hred]
          rw [e1] at hr
          simp only [ruT, srT, SR.tm, SR.code, SR.lab] at hr hcr ⊢
          simp only [E.tm, nd] at hc hr hcr ⊢
          refine fn_in ?_; refine acl_in Tryz.func54 rfl isfn_54 (Nat.le_of_ble_eq_true rfl) (fun R hR => ?_); rw [Tryz.results54] at hR; refine wg_run ?_; (simp only [Tryz.f54, go_sem])
          repeat' (first | (first | (simp only [go_sem, int_bne]) | (((first | apply sp1 | apply sp2 | apply sp3 | apply sp4 | apply sp5 | apply sp6 | apply sp7) <;> intro hb) <;> (simp only [go_sem, hb, int_bne])) | ((first | apply wm_done | apply wt_done | apply wg_run | refine fk ?_ ?_) <;> (simp only [go_sem, int_bne]))) | (first | (refine wl_next (wg_run ?_); (simp only [go_sem])) | refine wd_rounds 6 ?_) | ((first | refine mxq6 [] ?_ | refine mxq5 [] ?_ | refine mxq4 [] ?_ | refine mxq3 [] ?_ | refine mxq2 [] ?_ | refine mxq1 [] ?_ | refine mxq0 [] ?_ | fail); (simp only [go_sem, int_bne])) | (first | refine cdq ?_ (hc := hc) | refine cmq ?_ (hc := hc) | refine ctq ?_ (hc := hc)); (simp only [go_sem]) | (first | refine cdq ?_ (hc := va) | refine cmq ?_ (hc := va) | refine ctq ?_ (hc := va)); (simp only [go_sem]) | (first | refine cdq ?_ (hc := vb) | refine cmq ?_ (hc := vb) | refine ctq ?_ (hc := vb)); (simp only [go_sem]) | (first | refine cdq ?_ (hc := hr) | refine cmq ?_ (hc := hr) | refine ctq ?_ (hc := hr)); (simp only [go_sem]) | (first | refine cdq ?_ (hc := hcr) | refine cmq ?_ (hc := hcr) | refine ctq ?_ (hc := hcr)); (simp only [go_sem]) | fail)
          all_goals (refine hR _ ?_; refine rat [] (hK := ⟨rfl, rfl⟩))
  | pair a b iha ihb =>
    intro hw hn hv hz
    have hc := iCounts (E.pair a b).tm
    have hr := iRule (.pair a b) hw
    have hcr := iCastRule (.pair a b) hw hz (by simp [E.tm, nd, Tm.kids])
    simp only [E.wf, E.noA, Bool.and_eq_true] at hw hn
    simp only [E.tm, nd, Tm.size, Tm.sizes] at hz
    have va := iIsVal 100000000 (by omega) a.tm (by omega)
    have vb := iIsVal 100000000 (by omega) b.tm (by omega)
    rw [E.val_tm] at va vb
    have hcl := cloneT a.tm [b.tm] (by simp)
    simp only [stT, E.so, E.step]
    cases ea : a.val
    · rw [ea] at va
      have h1 := iha hw.1 hn.1 ea (by omega)
      simp only [stT] at h1
      simp only [SR.map_code, SR.map_lab]
      simp only [E.tm, nd] at hc ⊢
      refine fn_in ?_; refine acl_in Tryz.func54 rfl isfn_54 (Nat.le_of_ble_eq_true rfl) (fun R hR => ?_); rw [Tryz.results54] at hR; refine wg_run ?_; (simp only [Tryz.f54, go_sem])
      repeat' (first | (first | (simp only [go_sem, int_bne]) | (((first | apply sp1 | apply sp2 | apply sp3 | apply sp4 | apply sp5 | apply sp6 | apply sp7) <;> intro hb) <;> (simp only [go_sem, hb, int_bne])) | ((first | apply wm_done | apply wt_done | apply wg_run | refine fk ?_ ?_) <;> (simp only [go_sem, int_bne]))) | (first | (refine wl_next (wg_run ?_); (simp only [go_sem])) | refine wd_rounds 6 ?_) | ((first | refine mxq6 [] ?_ | refine mxq5 [] ?_ | refine mxq4 [] ?_ | refine mxq3 [] ?_ | refine mxq2 [] ?_ | refine mxq1 [] ?_ | refine mxq0 [] ?_ | fail); (simp only [go_sem, int_bne])) | (first | refine cdq ?_ (hc := hc) | refine cmq ?_ (hc := hc) | refine ctq ?_ (hc := hc)); (simp only [go_sem]) | (first | refine cdq ?_ (hc := va) | refine cmq ?_ (hc := va) | refine ctq ?_ (hc := va)); (simp only [go_sem]) | (first | refine cdq ?_ (hc := vb) | refine cmq ?_ (hc := vb) | refine ctq ?_ (hc := vb)); (simp only [go_sem]) | (first | refine cdq ?_ (hc := h1) | refine cmq ?_ (hc := h1) | refine ctq ?_ (hc := h1)); (simp only [go_sem]) | ((first | refine kdq [] ?_ (hc := hcl) | refine kmq [] ?_ (hc := hcl) | refine ktq [] ?_ (hc := hcl)); rintro _ _ ⟨rfl, rfl⟩ <;> (simp only [go_sem])) | fail)
      all_goals (refine hR _ ?_; refine rat [] (hK := ⟨rfl, rfl⟩))
    · rw [ea] at va
      simp only []
      cases eb : b.val
      · rw [eb] at vb
        have h1 := ihb hw.2 hn.2 eb (by omega)
        simp only [stT] at h1
        simp only [SR.map_code, SR.map_lab]
        simp only [E.tm, nd] at hc ⊢
        refine fn_in ?_; refine acl_in Tryz.func54 rfl isfn_54 (Nat.le_of_ble_eq_true rfl) (fun R hR => ?_); rw [Tryz.results54] at hR; refine wg_run ?_; (simp only [Tryz.f54, go_sem])
        repeat' (first | (first | (simp only [go_sem, int_bne]) | (((first | apply sp1 | apply sp2 | apply sp3 | apply sp4 | apply sp5 | apply sp6 | apply sp7) <;> intro hb) <;> (simp only [go_sem, hb, int_bne])) | ((first | apply wm_done | apply wt_done | apply wg_run | refine fk ?_ ?_) <;> (simp only [go_sem, int_bne]))) | (first | (refine wl_next (wg_run ?_); (simp only [go_sem])) | refine wd_rounds 6 ?_) | ((first | refine mxq6 [] ?_ | refine mxq5 [] ?_ | refine mxq4 [] ?_ | refine mxq3 [] ?_ | refine mxq2 [] ?_ | refine mxq1 [] ?_ | refine mxq0 [] ?_ | fail); (simp only [go_sem, int_bne])) | (first | refine cdq ?_ (hc := hc) | refine cmq ?_ (hc := hc) | refine ctq ?_ (hc := hc)); (simp only [go_sem]) | (first | refine cdq ?_ (hc := va) | refine cmq ?_ (hc := va) | refine ctq ?_ (hc := va)); (simp only [go_sem]) | (first | refine cdq ?_ (hc := vb) | refine cmq ?_ (hc := vb) | refine ctq ?_ (hc := vb)); (simp only [go_sem]) | (first | refine cdq ?_ (hc := h1) | refine cmq ?_ (hc := h1) | refine ctq ?_ (hc := h1)); (simp only [go_sem]) | ((first | refine kdq [] ?_ (hc := hcl) | refine kmq [] ?_ (hc := hcl) | refine ktq [] ?_ (hc := hcl)); rintro _ _ ⟨rfl, rfl⟩ <;> (simp only [go_sem])) | fail)
        all_goals (refine hR _ ?_; refine rat [] (hK := ⟨rfl, rfl⟩))
      · simp [E.val, ea, eb] at hv
  | ite a b c iha ihb ihc =>
    intro hw hn hv hz
    have hc := iCounts (E.ite a b c).tm
    have hr := iRule (.ite a b c) hw
    have hcr := iCastRule (.ite a b c) hw hz (by simp [E.tm, nd, Tm.kids])
    have hred := red_ite a b c
    simp only [E.wf, E.noA, Bool.and_eq_true] at hw hn
    simp only [E.tm, nd, Tm.size, Tm.sizes] at hz
    have va := iIsVal 100000000 (by omega) a.tm (by omega)
    rw [E.val_tm] at va
    have hcl := cloneT a.tm [b.tm, c.tm] (by simp)
    simp only [stT, E.so, E.step]
    cases ea : a.val
    · rw [ea] at va
      have h1 := iha hw.1 hn.1 ea (by omega)
      simp only [stT] at h1
      simp only [SR.map_code, SR.map_lab]
      simp only [E.tm, nd] at hc ⊢
      refine fn_in ?_; refine acl_in Tryz.func54 rfl isfn_54 (Nat.le_of_ble_eq_true rfl) (fun R hR => ?_); rw [Tryz.results54] at hR; refine wg_run ?_; (simp only [Tryz.f54, go_sem])
      repeat' (first | (first | (simp only [go_sem, int_bne]) | (((first | apply sp1 | apply sp2 | apply sp3 | apply sp4 | apply sp5 | apply sp6 | apply sp7) <;> intro hb) <;> (simp only [go_sem, hb, int_bne])) | ((first | apply wm_done | apply wt_done | apply wg_run | refine fk ?_ ?_) <;> (simp only [go_sem, int_bne]))) | (first | (refine wl_next (wg_run ?_); (simp only [go_sem])) | refine wd_rounds 6 ?_) | ((first | refine mxq6 [] ?_ | refine mxq5 [] ?_ | refine mxq4 [] ?_ | refine mxq3 [] ?_ | refine mxq2 [] ?_ | refine mxq1 [] ?_ | refine mxq0 [] ?_ | fail); (simp only [go_sem, int_bne])) | (first | refine cdq ?_ (hc := hc) | refine cmq ?_ (hc := hc) | refine ctq ?_ (hc := hc)); (simp only [go_sem]) | (first | refine cdq ?_ (hc := va) | refine cmq ?_ (hc := va) | refine ctq ?_ (hc := va)); (simp only [go_sem]) | (first | refine cdq ?_ (hc := h1) | refine cmq ?_ (hc := h1) | refine ctq ?_ (hc := h1)); (simp only [go_sem]) | ((first | refine kdq [] ?_ (hc := hcl) | refine kmq [] ?_ (hc := hcl) | refine ktq [] ?_ (hc := hcl)); rintro _ _ ⟨rfl, rfl⟩ <;> (simp only [go_sem])) | fail)
      all_goals (refine hR _ ?_; refine rat [] (hK := ⟨rfl, rfl⟩))
    · rw [ea] at va
      simp only []
      rcases red_cases (.ite a b c) with ⟨x, e1, e2⟩ | ⟨e1, e2⟩
      all_goals
        rw [e2] at hred
        rw [← hred]
        rw [e1] at hr
        simp only [ruT, srT, SR.tm, SR.code, SR.lab] at hr hcr ⊢
        simp only [E.tm, nd] at hc hr hcr ⊢
        refine fn_in ?_; refine acl_in Tryz.func54 rfl isfn_54 (Nat.le_of_ble_eq_true rfl) (fun R hR => ?_); rw [Tryz.results54] at hR; refine wg_run ?_; (simp only [Tryz.f54, go_sem])
        repeat' (first | (first | (simp only [go_sem, int_bne]) | (((first | apply sp1 | apply sp2 | apply sp3 | apply sp4 | apply sp5 | apply sp6 | apply sp7) <;> intro hb) <;> (simp only [go_sem, hb, int_bne])) | ((first | apply wm_done | apply wt_done | apply wg_run | refine fk ?_ ?_) <;> (simp only [go_sem, int_bne]))) | (first | (refine wl_next (wg_run ?_); (simp only [go_sem])) | refine wd_rounds 6 ?_) | ((first | refine mxq6 [] ?_ | refine mxq5 [] ?_ | refine mxq4 [] ?_ | refine mxq3 [] ?_ | refine mxq2 [] ?_ | refine mxq1 [] ?_ | refine mxq0 [] ?_ | fail); (simp only [go_sem, int_bne])) | (first | refine cdq ?_ (hc := hc) | refine cmq ?_ (hc := hc) | refine ctq ?_ (hc := hc)); (simp only [go_sem]) | (first | refine cdq ?_ (hc := va) | refine cmq ?_ (hc := va) | refine ctq ?_ (hc := va)); (simp only [go_sem]) | (first | refine cdq ?_ (hc := hr) | refine cmq ?_ (hc := hr) | refine ctq ?_ (hc := hr)); (simp only [go_sem]) | (first | refine cdq ?_ (hc := hcr) | refine cmq ?_ (hc := hcr) | refine ctq ?_ (hc := hcr)); (simp only [go_sem]) | fail)
        all_goals (refine hR _ ?_; refine rat [] (hK := ⟨rfl, rfl⟩))
  | fst a iha =>
    intro hw hn hv hz
    have hc := iCounts (E.fst a).tm
    have hr := iRule (.fst a) hw
    have hcr := iCastRule (.fst a) hw hz (by simp [E.tm, nd, Tm.kids])
    have hred := red_fst a
    simp only [E.wf, E.noA, Bool.and_eq_true] at hw hn
    simp only [E.tm, nd, Tm.size, Tm.sizes] at hz
    have va := iIsVal 100000000 (by omega) a.tm (by omega)
    rw [E.val_tm] at va
    have hcl := cloneT a.tm [] (by simp)
    simp only [stT, E.so, E.step]
    cases ea : a.val
    · rw [ea] at va
      have h1 := iha hw hn ea (by omega)
      simp only [stT] at h1
      simp only [SR.map_code, SR.map_lab]
      simp only [E.tm, nd] at hc ⊢
      refine fn_in ?_; refine acl_in Tryz.func54 rfl isfn_54 (Nat.le_of_ble_eq_true rfl) (fun R hR => ?_); rw [Tryz.results54] at hR; refine wg_run ?_; (simp only [Tryz.f54, go_sem])
      repeat' (first | (first | (simp only [go_sem, int_bne]) | (((first | apply sp1 | apply sp2 | apply sp3 | apply sp4 | apply sp5 | apply sp6 | apply sp7) <;> intro hb) <;> (simp only [go_sem, hb, int_bne])) | ((first | apply wm_done | apply wt_done | apply wg_run | refine fk ?_ ?_) <;> (simp only [go_sem, int_bne]))) | (first | (refine wl_next (wg_run ?_); (simp only [go_sem])) | refine wd_rounds 6 ?_) | ((first | refine mxq6 [] ?_ | refine mxq5 [] ?_ | refine mxq4 [] ?_ | refine mxq3 [] ?_ | refine mxq2 [] ?_ | refine mxq1 [] ?_ | refine mxq0 [] ?_ | fail); (simp only [go_sem, int_bne])) | (first | refine cdq ?_ (hc := hc) | refine cmq ?_ (hc := hc) | refine ctq ?_ (hc := hc)); (simp only [go_sem]) | (first | refine cdq ?_ (hc := va) | refine cmq ?_ (hc := va) | refine ctq ?_ (hc := va)); (simp only [go_sem]) | (first | refine cdq ?_ (hc := h1) | refine cmq ?_ (hc := h1) | refine ctq ?_ (hc := h1)); (simp only [go_sem]) | ((first | refine kdq [] ?_ (hc := hcl) | refine kmq [] ?_ (hc := hcl) | refine ktq [] ?_ (hc := hcl)); rintro _ _ ⟨rfl, rfl⟩ <;> (simp only [go_sem])) | fail)
      all_goals (refine hR _ ?_; refine rat [] (hK := ⟨rfl, rfl⟩))
    · rw [ea] at va
      simp only []
      rcases red_cases (.fst a) with ⟨x, e1, e2⟩ | ⟨e1, e2⟩
      all_goals
        rw [e2] at hred
        rw [← hred]
        rw [e1] at hr
        simp only [ruT, srT, SR.tm, SR.code, SR.lab] at hr hcr ⊢
        simp only [E.tm, nd] at hc hr hcr ⊢
        refine fn_in ?_; refine acl_in Tryz.func54 rfl isfn_54 (Nat.le_of_ble_eq_true rfl) (fun R hR => ?_); rw [Tryz.results54] at hR; refine wg_run ?_; (simp only [Tryz.f54, go_sem])
        repeat' (first | (first | (simp only [go_sem, int_bne]) | (((first | apply sp1 | apply sp2 | apply sp3 | apply sp4 | apply sp5 | apply sp6 | apply sp7) <;> intro hb) <;> (simp only [go_sem, hb, int_bne])) | ((first | apply wm_done | apply wt_done | apply wg_run | refine fk ?_ ?_) <;> (simp only [go_sem, int_bne]))) | (first | (refine wl_next (wg_run ?_); (simp only [go_sem])) | refine wd_rounds 6 ?_) | ((first | refine mxq6 [] ?_ | refine mxq5 [] ?_ | refine mxq4 [] ?_ | refine mxq3 [] ?_ | refine mxq2 [] ?_ | refine mxq1 [] ?_ | refine mxq0 [] ?_ | fail); (simp only [go_sem, int_bne])) | (first | refine cdq ?_ (hc := hc) | refine cmq ?_ (hc := hc) | refine ctq ?_ (hc := hc)); (simp only [go_sem]) | (first | refine cdq ?_ (hc := va) | refine cmq ?_ (hc := va) | refine ctq ?_ (hc := va)); (simp only [go_sem]) | (first | refine cdq ?_ (hc := hr) | refine cmq ?_ (hc := hr) | refine ctq ?_ (hc := hr)); (simp only [go_sem]) | (first | refine cdq ?_ (hc := hcr) | refine cmq ?_ (hc := hcr) | refine ctq ?_ (hc := hcr)); (simp only [go_sem]) | fail)
        all_goals (refine hR _ ?_; refine rat [] (hK := ⟨rfl, rfl⟩))
  | snd a iha =>
    intro hw hn hv hz
    have hc := iCounts (E.snd a).tm
    have hr := iRule (.snd a) hw
    have hcr := iCastRule (.snd a) hw hz (by simp [E.tm, nd, Tm.kids])
    have hred := red_snd a
    simp only [E.wf, E.noA, Bool.and_eq_true] at hw hn
    simp only [E.tm, nd, Tm.size, Tm.sizes] at hz
    have va := iIsVal 100000000 (by omega) a.tm (by omega)
    rw [E.val_tm] at va
    have hcl := cloneT a.tm [] (by simp)
    simp only [stT, E.so, E.step]
    cases ea : a.val
    · rw [ea] at va
      have h1 := iha hw hn ea (by omega)
      simp only [stT] at h1
      simp only [SR.map_code, SR.map_lab]
      simp only [E.tm, nd] at hc ⊢
      refine fn_in ?_; refine acl_in Tryz.func54 rfl isfn_54 (Nat.le_of_ble_eq_true rfl) (fun R hR => ?_); rw [Tryz.results54] at hR; refine wg_run ?_; (simp only [Tryz.f54, go_sem])
      repeat' (first | (first | (simp only [go_sem, int_bne]) | (((first | apply sp1 | apply sp2 | apply sp3 | apply sp4 | apply sp5 | apply sp6 | apply sp7) <;> intro hb) <;> (simp only [go_sem, hb, int_bne])) | ((first | apply wm_done | apply wt_done | apply wg_run | refine fk ?_ ?_) <;> (simp only [go_sem, int_bne]))) | (first | (refine wl_next (wg_run ?_); (simp only [go_sem])) | refine wd_rounds 6 ?_) | ((first | refine mxq6 [] ?_ | refine mxq5 [] ?_ | refine mxq4 [] ?_ | refine mxq3 [] ?_ | refine mxq2 [] ?_ | refine mxq1 [] ?_ | refine mxq0 [] ?_ | fail); (simp only [go_sem, int_bne])) | (first | refine cdq ?_ (hc := hc) | refine cmq ?_ (hc := hc) | refine ctq ?_ (hc := hc)); (simp only [go_sem]) | (first | refine cdq ?_ (hc := va) | refine cmq ?_ (hc := va) | refine ctq ?_ (hc := va)); (simp only [go_sem]) | (first | refine cdq ?_ (hc := h1) | refine cmq ?_ (hc := h1) | refine ctq ?_ (hc := h1)); (simp only [go_sem]) | ((first | refine kdq [] ?_ (hc := hcl) | refine kmq [] ?_ (hc := hcl) | refine ktq [] ?_ (hc := hcl)); rintro _ _ ⟨rfl, rfl⟩ <;> (simp only [go_sem])) | fail)
      all_goals (refine hR _ ?_; refine rat [] (hK := ⟨rfl, rfl⟩))
    · rw [ea] at va
      simp only []
      rcases red_cases (.snd a) with ⟨x, e1, e2⟩ | ⟨e1, e2⟩
      all_goals
        rw [e2] at hred
        rw [← hred]
        rw [e1] at hr
        simp only [ruT, srT, SR.tm, SR.code, SR.lab] at hr hcr ⊢
        simp only [E.tm, nd] at hc hr hcr ⊢
        refine fn_in ?_; refine acl_in Tryz.func54 rfl isfn_54 (Nat.le_of_ble_eq_true rfl) (fun R hR => ?_); rw [Tryz.results54] at hR; refine wg_run ?_; (simp only [Tryz.f54, go_sem])
        repeat' (first | (first | (simp only [go_sem, int_bne]) | (((first | apply sp1 | apply sp2 | apply sp3 | apply sp4 | apply sp5 | apply sp6 | apply sp7) <;> intro hb) <;> (simp only [go_sem, hb, int_bne])) | ((first | apply wm_done | apply wt_done | apply wg_run | refine fk ?_ ?_) <;> (simp only [go_sem, int_bne]))) | (first | (refine wl_next (wg_run ?_); (simp only [go_sem])) | refine wd_rounds 6 ?_) | ((first | refine mxq6 [] ?_ | refine mxq5 [] ?_ | refine mxq4 [] ?_ | refine mxq3 [] ?_ | refine mxq2 [] ?_ | refine mxq1 [] ?_ | refine mxq0 [] ?_ | fail); (simp only [go_sem, int_bne])) | (first | refine cdq ?_ (hc := hc) | refine cmq ?_ (hc := hc) | refine ctq ?_ (hc := hc)); (simp only [go_sem]) | (first | refine cdq ?_ (hc := va) | refine cmq ?_ (hc := va) | refine ctq ?_ (hc := va)); (simp only [go_sem]) | (first | refine cdq ?_ (hc := hr) | refine cmq ?_ (hc := hr) | refine ctq ?_ (hc := hr)); (simp only [go_sem]) | (first | refine cdq ?_ (hc := hcr) | refine cmq ?_ (hc := hcr) | refine ctq ?_ (hc := hcr)); (simp only [go_sem]) | fail)
        all_goals (refine hR _ ?_; refine rat [] (hK := ⟨rfl, rfl⟩))
  | cast s t l a iha =>
    intro hw hn hv hz
    have hc := iCounts (E.cast s t l a).tm
    have hr := iRule (.cast s t l a) hw
    have hcr := iCastRule (.cast s t l a) hw hz (by simp [E.tm, nd, Tm.kids])
    have hred := red_cast s t l a
    simp only [E.wf, E.noA, Bool.and_eq_true] at hw hn
    simp only [E.tm, nd, Tm.size, Tm.sizes] at hz
    have va := iIsVal 100000000 (by omega) a.tm (by omega)
    rw [E.val_tm] at va
    have hcl := cloneT a.tm [] (by simp)
    simp only [stT, E.so, E.step]
    cases ea : a.val
    · rw [ea] at va
      have h1 := iha hw.2.2.2 hn ea (by omega)
      simp only [stT] at h1
      simp only [SR.map_code, SR.map_lab]
      simp only [E.tm, nd] at hc ⊢
      refine fn_in ?_; refine acl_in Tryz.func54 rfl isfn_54 (Nat.le_of_ble_eq_true rfl) (fun R hR => ?_); rw [Tryz.results54] at hR; refine wg_run ?_; (simp only [Tryz.f54, go_sem])
      repeat' (first | (first | (simp only [go_sem, int_bne]) | (((first | apply sp1 | apply sp2 | apply sp3 | apply sp4 | apply sp5 | apply sp6 | apply sp7) <;> intro hb) <;> (simp only [go_sem, hb, int_bne])) | ((first | apply wm_done | apply wt_done | apply wg_run | refine fk ?_ ?_) <;> (simp only [go_sem, int_bne]))) | (first | (refine wl_next (wg_run ?_); (simp only [go_sem])) | refine wd_rounds 6 ?_) | ((first | refine mxq6 [] ?_ | refine mxq5 [] ?_ | refine mxq4 [] ?_ | refine mxq3 [] ?_ | refine mxq2 [] ?_ | refine mxq1 [] ?_ | refine mxq0 [] ?_ | fail); (simp only [go_sem, int_bne])) | (first | refine cdq ?_ (hc := hc) | refine cmq ?_ (hc := hc) | refine ctq ?_ (hc := hc)); (simp only [go_sem]) | (first | refine cdq ?_ (hc := va) | refine cmq ?_ (hc := va) | refine ctq ?_ (hc := va)); (simp only [go_sem]) | (first | refine cdq ?_ (hc := h1) | refine cmq ?_ (hc := h1) | refine ctq ?_ (hc := h1)); (simp only [go_sem]) | ((first | refine kdq [] ?_ (hc := hcl) | refine kmq [] ?_ (hc := hcl) | refine ktq [] ?_ (hc := hcl)); rintro _ _ ⟨rfl, rfl⟩ <;> (simp only [go_sem])) | fail)
      all_goals (refine hR _ ?_; refine rat [] (hK := ⟨rfl, rfl⟩))
    · rw [ea] at va
      simp only []
      rcases red_cases (.cast s t l a) with ⟨x, e1, e2⟩ | ⟨e1, e2⟩
      all_goals
        rw [e2] at hred
        rw [← hred]
        rw [e1] at hr
        simp only [ruT, srT, SR.tm, SR.code, SR.lab] at hr hcr ⊢
        simp only [E.tm, nd] at hc hr hcr ⊢
        refine fn_in ?_; refine acl_in Tryz.func54 rfl isfn_54 (Nat.le_of_ble_eq_true rfl) (fun R hR => ?_); rw [Tryz.results54] at hR; refine wg_run ?_; (simp only [Tryz.f54, go_sem])
        repeat' (first | (first | (simp only [go_sem, int_bne]) | (((first | apply sp1 | apply sp2 | apply sp3 | apply sp4 | apply sp5 | apply sp6 | apply sp7) <;> intro hb) <;> (simp only [go_sem, hb, int_bne])) | ((first | apply wm_done | apply wt_done | apply wg_run | refine fk ?_ ?_) <;> (simp only [go_sem, int_bne]))) | (first | (refine wl_next (wg_run ?_); (simp only [go_sem])) | refine wd_rounds 6 ?_) | ((first | refine mxq6 [] ?_ | refine mxq5 [] ?_ | refine mxq4 [] ?_ | refine mxq3 [] ?_ | refine mxq2 [] ?_ | refine mxq1 [] ?_ | refine mxq0 [] ?_ | fail); (simp only [go_sem, int_bne])) | (first | refine cdq ?_ (hc := hc) | refine cmq ?_ (hc := hc) | refine ctq ?_ (hc := hc)); (simp only [go_sem]) | (first | refine cdq ?_ (hc := va) | refine cmq ?_ (hc := va) | refine ctq ?_ (hc := va)); (simp only [go_sem]) | (first | refine cdq ?_ (hc := hr) | refine cmq ?_ (hc := hr) | refine ctq ?_ (hc := hr)); (simp only [go_sem]) | (first | refine cdq ?_ (hc := hcr) | refine cmq ?_ (hc := hcr) | refine ctq ?_ (hc := hcr)); (simp only [go_sem]) | fail)
        all_goals (refine hR _ ?_; refine rat [] (hK := ⟨rfl, rfl⟩))
  | var x =>
    intro hw hn hv hz
    have hc := iCounts (E.var x).tm
    have hr := iRule (.var x) hw
    simp only [stT, E.so, E.step, E.ruleI, ruT, SR.code, SR.lab] at hr ⊢
    simp only [E.tm, nd] at hc hr ⊢
    refine fn_in ?_; refine acl_in Tryz.func54 rfl isfn_54 (Nat.le_of_ble_eq_true rfl) (fun R hR => ?_); rw [Tryz.results54] at hR; refine wg_run ?_; (simp only [Tryz.f54, go_sem])
    repeat' (first | (first | (simp only [go_sem, int_bne]) | (((first | apply sp1 | apply sp2 | apply sp3 | apply sp4 | apply sp5 | apply sp6 | apply sp7) <;> intro hb) <;> (simp only [go_sem, hb, int_bne])) | ((first | apply wm_done | apply wt_done | apply wg_run | refine fk ?_ ?_) <;> (simp only [go_sem, int_bne]))) | (first | (refine wl_next (wg_run ?_); (simp only [go_sem])) | refine wd_rounds 6 ?_) | ((first | refine mxq6 [] ?_ | refine mxq5 [] ?_ | refine mxq4 [] ?_ | refine mxq3 [] ?_ | refine mxq2 [] ?_ | refine mxq1 [] ?_ | refine mxq0 [] ?_ | fail); (simp only [go_sem, int_bne])) | (first | refine cdq ?_ (hc := hc) | refine cmq ?_ (hc := hc) | refine ctq ?_ (hc := hc)); (simp only [go_sem]) | (first | refine cdq ?_ (hc := hr) | refine cmq ?_ (hc := hr) | refine ctq ?_ (hc := hr)); (simp only [go_sem]) | fail)
    all_goals (refine hR _ ?_; refine rat [] (hK := ⟨rfl, rfl⟩))
  | num _ | tru | fls => intro _ _ hv; simp [E.val] at hv
  | lam _ _ a ih => intro _ _ hv; simp [E.val] at hv
  | asc _ _ _ => intro _ hn; simp [E.noA] at hn
end Go.Proofs.YtjmicohbnpbemaaGreat
