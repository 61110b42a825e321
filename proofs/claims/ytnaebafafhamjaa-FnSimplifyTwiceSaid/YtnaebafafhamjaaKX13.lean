/- Texts of the proof, one behind another. -/
import Derived.Test.YtnaebafafhamjaaKX11
import Derived.Test.YtnaebafafhamjaaKX12
set_option linter.unusedSimpArgs false
set_option linter.unusedVariables false
/- Terms: values, on shadows. -/
namespace Go.Proofs.Grad
end Go.Proofs.Grad
namespace Go.Proofs.Ytnaebafafhamjaa
open Go.RowKit Go.Proofs.Sh Go.Proofs.Grad
set_option maxRecDepth 100000
set_option maxHeartbeats 8000000
theorem sSame (n : Nat) (hn : n ≤ 4611686018427387904) : ∀ a b : Ty, a.size < n → AFn Try.prog 95 [.agg (tyC a), .agg (tyC b)] (.one (.sc (.bool (a.same b)))) := by
  induction n with
  | zero => intro a b h; omega
  | succ n ih =>
    intro a b h
    have hl : a.kids.length < 4611686018427387904 := by have := Ty.length_le_sizes a.kids; cases a; simp only [Ty.size, Ty.kids] at *; omega
    have e : a.same b = (a.kind == b.kind && all2 Ty.same a.kids b.kids) := by cases a; cases b; simp only [Ty.same, Ty.kind, Ty.kids, Ty.sames_all2]
    rw [e]
    cases hk : (a.kind == b.kind)
    · refine fn_in ?_; refine acl_in Try.func95 rfl isfn_95 (Nat.le_of_ble_eq_true rfl) (fun R hR => ?_); rw [Try.results95] at hR; refine wg_run ?_; (simp only [Try.f95, go_sem, hk, int_bne])
      repeat' (first | (simp only [go_sem, hk, int_bne]) | (((first | apply sp1 | apply sp2 | apply sp3 | apply sp4 | apply sp5 | apply sp6 | apply sp7) <;> intro hb) <;> (simp only [go_sem, hb, hk, int_bne])) | ((first | apply wm_done | apply wt_done | apply wg_run | refine fk ?_ ?_) <;> (simp only [go_sem, hk, int_bne])))
      (refine hR _ (rat [] (hK := ⟨rfl, rfl⟩)))
    · by_cases hlm : a.kids.length = b.kids.length
      · have hb0 : ((a.kids.length : Int) == (b.kids.length : Int)) = true := by simp; omega
        refine fn_in ?_; refine acl_in Try.func95 rfl isfn_95 (Nat.le_of_ble_eq_true rfl) (fun R hR => ?_); rw [Try.results95] at hR; refine wg_run ?_; (simp only [Try.f95, go_sem, hk, int_bne, hb0])
        repeat' (first | (simp only [go_sem, hk, int_bne, hb0]) | (((first | apply sp1 | apply sp2 | apply sp3 | apply sp4 | apply sp5 | apply sp6 | apply sp7) <;> intro hb) <;> (simp only [go_sem, hb, hk, int_bne, hb0])) | ((first | apply wm_done | apply wt_done | apply wg_run | refine fk ?_ ?_) <;> (simp only [go_sem, hk, int_bne, hb0])))
        refine wd_for [2, 3, 5] (fun k => [.one (.ptr 2 0 0 0), .one (.ptr 2 1 0 0), .one (.sc (.int .i64 (k : Nat)))]) (fun _ => [⟨2, 25, .mut, [tyC a]⟩, ⟨2, 25, .mut, [tyC b]⟩])
          (fun k => k ≤ a.kids.length ∧ all2 Ty.same (a.kids.drop k) (b.kids.drop k) = all2 Ty.same a.kids b.kids) (fun k => a.kids.length - k) 0 ⟨Nat.zero_le _, rfl⟩ (hat [0, 1] (hI := ⟨rfl, rfl⟩)) ?_
        rintro k ⟨hk0, hs⟩ G hG
        refine wg_run ?_
        (simp only [go_sem])
        ((first | apply sp1 | apply sp2 | apply sp3 | apply sp4 | apply sp5 | apply sp6 | apply sp7) <;> intro hb) <;> (simp only [go_sem, hb])
        · have hk1 : k < a.kids.length := by have := of_decide_eq_true hb; omega
          have hk2 : decide ((k : Int) < (b.kids.length : Int)) = true := by simp; omega
          have hw1 := wrap_succ hk1 (by omega)
          rw [drop_kid hk1, drop_kid (by omega : k < b.kids.length), all2] at hs
          have hc := ih (by omega) (kid a.kids k) (kid b.kids k) (by have := kid_lt hk1; omega)
          repeat' (first | (first | (simp only [go_sem, hb, hk2, hw1]) | (((first | apply sp1 | apply sp2 | apply sp3 | apply sp4 | apply sp5 | apply sp6 | apply sp7) <;> intro hb) <;> (simp only [go_sem, hb, hb, hk2, hw1])) | ((first | apply wm_done | apply wt_done | apply wg_run | refine fk ?_ ?_) <;> (simp only [go_sem, hb, hk2, hw1]))) | ((first | refine mxq6 [] ?_ | refine mxq5 [] ?_ | refine mxq4 [] ?_ | refine mxq3 [] ?_ | refine mxq2 [] ?_ | refine mxq1 [] ?_ | refine mxq0 [] ?_ | fail); (simp only [go_sem, hb, hk2])) | (first | refine cdq ?_ (hc := hc) | refine cmq ?_ (hc := hc) | refine ctq ?_ (hc := hc)); (simp only [go_sem]))
          · exact hG (k + 1) _ _ ⟨by omega, by simpa [hb] using hs⟩ (by omega) (hat [0, 1] (hI := ⟨rfl, rfl⟩))
          · (refine hR _ (rat [] (hK := ⟨?_, rfl⟩)))
            simpa [hb] using hs
        · have hk1 : ¬ k < a.kids.length := by have := of_decide_eq_false hb; omega
          rw [List.drop_eq_nil_of_le (by omega), List.drop_eq_nil_of_le (by omega), all2] at hs
          (refine hR _ (rat [] (hK := ⟨?_, rfl⟩)))
          rw [← hs]; rfl
      · have hb0 : ((a.kids.length : Int) == (b.kids.length : Int)) = false := by simp; omega
        refine fn_in ?_; refine acl_in Try.func95 rfl isfn_95 (Nat.le_of_ble_eq_true rfl) (fun R hR => ?_); rw [Try.results95] at hR; refine wg_run ?_; (simp only [Try.f95, go_sem, hk, int_bne, hb0])
        repeat' (first | (simp only [go_sem, hk, int_bne, hb0]) | (((first | apply sp1 | apply sp2 | apply sp3 | apply sp4 | apply sp5 | apply sp6 | apply sp7) <;> intro hb) <;> (simp only [go_sem, hb, hk, int_bne, hb0])) | ((first | apply wm_done | apply wt_done | apply wg_run | refine fk ?_ ?_) <;> (simp only [go_sem, hk, int_bne, hb0])))
        (refine hR _ (rat [] (hK := ⟨?_, rfl⟩)))
        rw [all2_len hlm]; rfl
end Go.Proofs.Ytnaebafafhamjaa
/- Terms: casts simplified, on shadows. -/
namespace Go.Proofs.Grad
def backB (s t : T) : E → Bool
  | .cast s' t' _ _ => t'.ty.kind == 1 && (s.ty.kind == 1 && s'.ty.same t.ty)
  | _ => false
def E.kid0 : E → E
  | .cast _ _ _ b => b
  | e => e
/-- a cast that does nothing, or that undoes the one below it, away -/
def E.simp1 : E → E
  | .cast s t l a => match s.ty.same t.ty with | true => a | false => (match backB s t a with | true => a.kid0 | false => .cast s t l a)
  | e => e
theorem E.kid0_wf {e : E} (h : e.wf = true) : e.kid0.wf = true := by
  cases e <;> simp only [E.kid0] <;> first | exact h | (simp only [E.wf, Bool.and_eq_true] at h; exact h.2.2.2)
theorem E.simp1_wf (x : E) (h : x.wf = true) : x.simp1.wf = true := by
  cases x <;> simp only [E.simp1] <;> try exact h
  rename_i s t l a
  have ha : a.wf = true := by simp only [E.wf, Bool.and_eq_true] at h; exact h.2.2.2
  split
  · exact ha
  · split
    · exact E.kid0_wf ha
    · exact h
def E.simp (e : E) : E := e.mapE E.simp1
theorem E.simp_wf (e : E) (h : e.wf = true) : e.simp.wf = true := E.mapE_wf E.simp1_wf e h
end Go.Proofs.Grad
namespace Go.Proofs.Ytnaebafafhamjaa
open Go.RowKit Go.Proofs.Sh Go.Proofs.Grad
set_option maxRecDepth 100000
set_option maxHeartbeats 8000000
theorem iSimplified (x : E) (h : x.wf = true) : AFn Try.prog 66 [.agg (teC x.tm)] (.agg (teC x.simp1.tm)) := by
  cases x with
  | cast s t l a =>
    simp only [E.wf, Bool.and_eq_true, decide_eq_true_eq] at h
    have h1 := iSame 1000 (by omega) s.ty t.ty (T.ty_small h.1.1)
    simp only [E.simp1]
    cases e1 : s.ty.same t.ty
    · rw [e1] at h1
      cases a with
      | cast s' t' l' b =>
        have h2 := iSame 1000 (by omega) t.ty s'.ty (T.ty_small h.1.2)
        rw [Ty.same_comm] at h2
        have e2 : backB s t (.cast s' t' l' b) = (t'.ty.kind == 1 && (s.ty.kind == 1 && s'.ty.same t.ty)) := rfl
        rw [e2]
        simp only [E.tm, nd, E.kid0]
        cases e3 : (t'.ty.kind == 1) <;> cases e4 : (s.ty.kind == 1) <;> cases e5 : s'.ty.same t.ty
        all_goals
          rw [e5] at h2
          refine fn_in ?_; refine acl_in Try.func66 rfl isfn_66 (Nat.le_of_ble_eq_true rfl) (fun R hR => ?_); rw [Try.results66] at hR; refine wg_run ?_; (simp only [Try.f66, go_sem])
          repeat' (first | (first | (simp only [go_sem, int_bne, e3, e4]) | (((first | apply sp1 | apply sp2 | apply sp3 | apply sp4 | apply sp5 | apply sp6 | apply sp7) <;> intro hb) <;> (simp only [go_sem, hb, int_bne, e3, e4])) | ((first | apply wm_done | apply wt_done | apply wg_run | refine fk ?_ ?_) <;> (simp only [go_sem, int_bne, e3, e4]))) | (first | refine cdq ?_ (hc := h1) | refine cmq ?_ (hc := h1) | refine ctq ?_ (hc := h1)); (simp only [go_sem]) | (first | refine cdq ?_ (hc := h2) | refine cmq ?_ (hc := h2) | refine ctq ?_ (hc := h2)); (simp only [go_sem]))
          (refine hR _ (rat [] (hK := ⟨?_, rfl⟩)))
          simp only [Bool.true_and, Bool.false_and, Bool.and_false, Bool.and_true, E.tm]
          try rfl
      | _ =>
        simp only [backB, E.tm, nd]
        cases e4 : (s.ty.kind == 1)
        all_goals
          refine fn_in ?_; refine acl_in Try.func66 rfl isfn_66 (Nat.le_of_ble_eq_true rfl) (fun R hR => ?_); rw [Try.results66] at hR; refine wg_run ?_; (simp only [Try.f66, go_sem])
          repeat' (first | (first | (simp only [go_sem, int_bne, e4]) | (((first | apply sp1 | apply sp2 | apply sp3 | apply sp4 | apply sp5 | apply sp6 | apply sp7) <;> intro hb) <;> (simp only [go_sem, hb, int_bne, e4])) | ((first | apply wm_done | apply wt_done | apply wg_run | refine fk ?_ ?_) <;> (simp only [go_sem, int_bne, e4]))) | (first | refine cdq ?_ (hc := h1) | refine cmq ?_ (hc := h1) | refine ctq ?_ (hc := h1)); (simp only [go_sem]))
          (refine hR _ (rat [] (hK := ⟨rfl, rfl⟩)))
    · rw [e1] at h1
      simp only [E.tm]
      refine fn_in ?_; refine acl_in Try.func66 rfl isfn_66 (Nat.le_of_ble_eq_true rfl) (fun R hR => ?_); rw [Try.results66] at hR; refine wg_run ?_; (simp only [Try.f66, go_sem])
      repeat' (first | (first | (simp only [go_sem, int_bne]) | (((first | apply sp1 | apply sp2 | apply sp3 | apply sp4 | apply sp5 | apply sp6 | apply sp7) <;> intro hb) <;> (simp only [go_sem, hb, int_bne])) | ((first | apply wm_done | apply wt_done | apply wg_run | refine fk ?_ ?_) <;> (simp only [go_sem, int_bne]))) | (first | refine cdq ?_ (hc := h1) | refine cmq ?_ (hc := h1) | refine ctq ?_ (hc := h1)); (simp only [go_sem]))
      (refine hR _ (rat [] (hK := ⟨rfl, rfl⟩)))
  | _ =>
    simp only [E.tm, nd, E.simp1]
    refine fn_in ?_; refine acl_in Try.func66 rfl isfn_66 (Nat.le_of_ble_eq_true rfl) (fun R hR => ?_); rw [Try.results66] at hR; refine wg_run ?_; (simp only [Try.f66, go_sem])
    repeat' (first | (simp only [go_sem, int_bne]) | (((first | apply sp1 | apply sp2 | apply sp3 | apply sp4 | apply sp5 | apply sp6 | apply sp7) <;> intro hb) <;> (simp only [go_sem, hb, int_bne])) | ((first | apply wm_done | apply wt_done | apply wg_run | refine fk ?_ ?_) <;> (simp only [go_sem, int_bne])))
    (refine hR _ (rat [] (hK := ⟨rfl, rfl⟩)))
theorem iSimp (e : E) (h : e.wf = true) : AFn Try.prog 65 [.agg (teC e.tm), .one (.fn 66 [])] (.agg (teC e.simp.tm)) :=
  iMapped 66 E.simp1 E.simp1_wf iSimplified e h
end Go.Proofs.Ytnaebafafhamjaa
/- Terms: casts that change nothing, counted; on shadows. -/
namespace Go.Proofs.Grad
theorem E.kid0_size {e : E} : e.kid0.tm.size ≤ e.tm.size := by
  cases e <;> simp [E.kid0, E.tm, Tm.size, Tm.sizes] <;> omega
theorem E.simp1_size (x : E) : x.simp1.tm.size ≤ x.tm.size := by
  cases x <;> simp only [E.simp1] <;> try exact Nat.le_refl _
  rename_i s t l a
  have h := E.kid0_size (e := a)
  split
  · simp only [E.tm, Tm.size, Tm.sizes]; omega
  · split
    · simp only [E.tm, Tm.size, Tm.sizes] at h ⊢; omega
    · exact Nat.le_refl _
theorem E.mapE_size {φ : E → E} (h : ∀ x : E, (φ x).tm.size ≤ x.tm.size) (e : E) : (e.mapE φ).tm.size ≤ e.tm.size := by
  induction e <;> simp only [E.mapE] <;> refine Nat.le_trans (h _) ?_ <;> simp only [E.tm, nd, Tm.size, Tm.sizes] <;> omega
theorem E.simp_size (e : E) : e.simp.tm.size ≤ e.tm.size := E.mapE_size E.simp1_size e
/-- how many casts fall away -/
theorem Tm.red_ex (t : Tm) : ∃ n : Int, (t.castV = true → ∃ e : E, e.tm = t ∧ e.okC = true ∧ n = (e.tm.castsL.length : Int) - (e.simp.tm.castsL.length : Int)) ∧ (t.castV = false → n = 0) := by
  cases h : t.castV
  · exact ⟨0, by simp, fun _ => rfl⟩
  · obtain ⟨e, h1, h2⟩ := Tm.castV_E h
    exact ⟨_, fun _ => ⟨e, h1, h2, rfl⟩, by simp⟩
noncomputable def Tm.redV (t : Tm) : Int := (Tm.red_ex t).choose
theorem Tm.redV_spec (t : Tm) : (t.castV = true → ∃ e : E, e.tm = t ∧ e.okC = true ∧ Tm.redV t = (e.tm.castsL.length : Int) - (e.simp.tm.castsL.length : Int)) ∧ (t.castV = false → Tm.redV t = 0) := (Tm.red_ex t).choose_spec
theorem red_wrap {a b : Nat} (h1 : a < 100000000) (h2 : b < 100000000) : IntKind.i64.wrap ((a : Int) - (b : Int)) = (a : Int) - (b : Int) := IntWalk.i64_in _ (by omega)
end Go.Proofs.Grad
namespace Go.Proofs.Ytnaebafafhamjaa
open Go.RowKit Go.Proofs.Sh Go.Proofs.Grad
set_option maxRecDepth 100000
set_option maxHeartbeats 8000000
theorem l2CopyS (t : Tm) (hk : 0 < t.kids.length) (h : t.size < 274877906944) : ACl Try.prog 71 [.agg (teC t)] [] (fun r H' => r = .agg (teK t (.row 9 0 t.kids.length)) ∧ H' = [⟨9, 28, .mut, teR t.kids⟩]) := by
  refine (l2CopyO _ (Nat.le_refl _) t h).mono ?_
  rintro r H' (⟨h1, _⟩ | ⟨_, h2, h3⟩)
  · rw [h1] at hk; exact absurd hk (by simp)
  · exact ⟨h2, h3⟩
theorem sBack (s t : T) (l : Int) (a : E) (hs : s.depth ≤ 4) (h : (E.cast s t l a).wf = true) : AFn Try.prog 111 [.agg (teC (E.cast s t l a).tm)] (.one (.sc (.bool (backB s t a)))) := by
  cases a with
  | cast s' t' l' b =>
    simp only [E.wf, Bool.and_eq_true, decide_eq_true_eq] at h
    have h2 := sSame 1000 (by omega) s'.ty t.ty (T.ty_small h.2.2.2.1.1)
    have e2 : backB s t (.cast s' t' l' b) = (t'.ty.kind == 1 && (s.ty.kind == 1 && s'.ty.same t.ty)) := rfl
    rw [e2]
    simp only [E.tm]
    cases e3 : (t'.ty.kind == 1) <;> cases e4 : (s.ty.kind == 1) <;> cases e5 : s'.ty.same t.ty
    all_goals
      rw [e5] at h2
      refine fn_in ?_; refine acl_in Try.func111 rfl isfn_111 (Nat.le_of_ble_eq_true rfl) (fun R hR => ?_); rw [Try.results111] at hR; refine wg_run ?_; (simp only [Try.f111, go_sem])
      repeat' (first | (first | (simp only [go_sem, int_bne, e3, e4]) | (((first | apply sp1 | apply sp2 | apply sp3 | apply sp4 | apply sp5 | apply sp6 | apply sp7) <;> intro hb) <;> (simp only [go_sem, hb, int_bne, e3, e4])) | ((first | apply wm_done | apply wt_done | apply wg_run | refine fk ?_ ?_) <;> (simp only [go_sem, int_bne, e3, e4]))) | (first | refine cdq ?_ (hc := h2) | refine cmq ?_ (hc := h2) | refine ctq ?_ (hc := h2)); (simp only [go_sem]))
      (refine hR _ (rat [] (hK := ⟨rfl, rfl⟩)))
  | _ =>
    simp only [backB, E.tm, nd]
    refine fn_in ?_; refine acl_in Try.func111 rfl isfn_111 (Nat.le_of_ble_eq_true rfl) (fun R hR => ?_); rw [Try.results111] at hR; refine wg_run ?_; (simp only [Try.f111, go_sem])
    repeat' (first | (simp only [go_sem, int_bne]) | (((first | apply sp1 | apply sp2 | apply sp3 | apply sp4 | apply sp5 | apply sp6 | apply sp7) <;> intro hb) <;> (simp only [go_sem, hb, int_bne])) | ((first | apply wm_done | apply wt_done | apply wg_run | refine fk ?_ ?_) <;> (simp only [go_sem, int_bne])))
    (refine hR _ (rat [] (hK := ⟨rfl, rfl⟩)))
theorem sSimple (e : E) : e.wf = true → e.tm.size < 274877906944 → AFn Try.prog 67 [.agg (teC e.tm)] (.agg (teC e.simp.tm)) := by
  unfold E.simp
  induction e with
  | var _ | num _ | tru | fls =>
    intro h hz
    have hc := l2Copy _ (Nat.le_refl _) _ hz
    simp only [E.mapE, E.simp1]
    simp only [E.tm, nd] at hc ⊢
    refine fn_in ?_; refine acl_in Try.func67 rfl isfn_67 (Nat.le_of_ble_eq_true rfl) (fun R hR => ?_); rw [Try.results67] at hR; refine wg_run ?_; (simp only [Try.f67, go_sem])
    repeat' (first | (first | (((first | apply sp1 | apply sp2 | apply sp3 | apply sp4 | apply sp5 | apply sp6 | apply sp7) <;> intro hb) <;> (simp only [go_sem, hb])) | ((first | apply wm_done | apply wt_done | apply wg_run | refine fk ?_ ?_) <;> (simp only [go_sem]))) | (first | (refine wl_next (wg_run ?_); (simp only [go_sem])) | refine wd_rounds 6 ?_) | (first | refine cdq ?_ (hc := hc) | refine cmq ?_ (hc := hc) | refine ctq ?_ (hc := hc)); (simp only [go_sem]))
    (refine hR _ (rat [] (hK := ⟨rfl, rfl⟩)))
  | app a b iha ihb | add a b iha ihb | less a b iha ihb | pair a b iha ihb =>
    intro h hz
    simp only [E.wf, Bool.and_eq_true] at h
    have hc := l2CopyS _ (by simp [E.tm, nd, Tm.kids]) hz
    simp only [E.tm, nd, Tm.size, Tm.sizes] at hz
    have iha := iha h.1 (by omega)
    have ihb := ihb h.2 (by omega)
    simp only [E.mapE, E.simp1]
    simp only [E.tm, nd, teK, Tm.kind, Tm.name, Tm.num, Tm.type, Tm.frm, Tm.label, Tm.kids, teR, List.length_cons, List.length_nil] at hc ⊢
    refine fn_in ?_; refine acl_in Try.func67 rfl isfn_67 (Nat.le_of_ble_eq_true rfl) (fun R hR => ?_); rw [Try.results67] at hR; refine wg_run ?_; (simp only [Try.f67, go_sem])
    repeat' (first | (first | (((first | apply sp1 | apply sp2 | apply sp3 | apply sp4 | apply sp5 | apply sp6 | apply sp7) <;> intro hb) <;> (simp only [go_sem, hb])) | ((first | apply wm_done | apply wt_done | apply wg_run | refine fk ?_ ?_) <;> (simp only [go_sem]))) | (first | (refine wl_next (wg_run ?_); (simp only [go_sem])) | refine wd_rounds 6 ?_) | ((first | refine kdq [] ?_ (hc := hc) | refine kmq [] ?_ (hc := hc) | refine ktq [] ?_ (hc := hc)); rintro _ _ ⟨rfl, rfl⟩ <;> (simp only [go_sem])) | (first | refine cdq ?_ (hc := iha) | refine cmq ?_ (hc := iha) | refine ctq ?_ (hc := iha)); (simp only [go_sem]) | (first | refine cdq ?_ (hc := ihb) | refine cmq ?_ (hc := ihb) | refine ctq ?_ (hc := ihb)); (simp only [go_sem]) | ((first | refine mxq6 [] ?_ | refine mxq5 [] ?_ | refine mxq4 [] ?_ | refine mxq3 [] ?_ | refine mxq2 [] ?_ | refine mxq1 [] ?_ | refine mxq0 [] ?_ | fail); (simp only [go_sem])) | fail)
    (refine hR _ (rat [] (hK := ⟨rfl, rfl⟩)))
  | ite a b c iha ihb ihc =>
    intro h hz
    simp only [E.wf, Bool.and_eq_true] at h
    have hc := l2CopyS _ (by simp [E.tm, nd, Tm.kids]) hz
    simp only [E.tm, nd, Tm.size, Tm.sizes] at hz
    have iha := iha h.1 (by omega)
    have ihb := ihb h.2.1 (by omega)
    have ihc := ihc h.2.2 (by omega)
    simp only [E.mapE, E.simp1]
    simp only [E.tm, nd, teK, Tm.kind, Tm.name, Tm.num, Tm.type, Tm.frm, Tm.label, Tm.kids, teR, List.length_cons, List.length_nil] at hc ⊢
    refine fn_in ?_; refine acl_in Try.func67 rfl isfn_67 (Nat.le_of_ble_eq_true rfl) (fun R hR => ?_); rw [Try.results67] at hR; refine wg_run ?_; (simp only [Try.f67, go_sem])
    repeat' (first | (first | (((first | apply sp1 | apply sp2 | apply sp3 | apply sp4 | apply sp5 | apply sp6 | apply sp7) <;> intro hb) <;> (simp only [go_sem, hb])) | ((first | apply wm_done | apply wt_done | apply wg_run | refine fk ?_ ?_) <;> (simp only [go_sem]))) | (first | (refine wl_next (wg_run ?_); (simp only [go_sem])) | refine wd_rounds 6 ?_) | ((first | refine kdq [] ?_ (hc := hc) | refine kmq [] ?_ (hc := hc) | refine ktq [] ?_ (hc := hc)); rintro _ _ ⟨rfl, rfl⟩ <;> (simp only [go_sem])) | (first | refine cdq ?_ (hc := iha) | refine cmq ?_ (hc := iha) | refine ctq ?_ (hc := iha)); (simp only [go_sem]) | (first | refine cdq ?_ (hc := ihb) | refine cmq ?_ (hc := ihb) | refine ctq ?_ (hc := ihb)); (simp only [go_sem]) | (first | refine cdq ?_ (hc := ihc) | refine cmq ?_ (hc := ihc) | refine ctq ?_ (hc := ihc)); (simp only [go_sem]) | ((first | refine mxq6 [] ?_ | refine mxq5 [] ?_ | refine mxq4 [] ?_ | refine mxq3 [] ?_ | refine mxq2 [] ?_ | refine mxq1 [] ?_ | refine mxq0 [] ?_ | fail); (simp only [go_sem])) | fail)
    (refine hR _ (rat [] (hK := ⟨rfl, rfl⟩)))
  | cast s t l a ih =>
    intro h hz
    have hw := h
    simp only [E.wf, Bool.and_eq_true, decide_eq_true_eq] at h
    have hc := l2CopyS _ (by simp [E.tm, nd, Tm.kids]) hz
    simp only [E.tm, nd, Tm.size, Tm.sizes] at hz
    have ih := ih h.2.2.2 (by omega)
    have hwa : (a.mapE E.simp1).wf = true := E.simp_wf a h.2.2.2
    have h1 := sSame 1000 (by omega) s.ty t.ty (T.ty_small h.1.1)
    have h2 := sBack s t l (a.mapE E.simp1) h.1.1 (by simp only [E.wf, Bool.and_eq_true, decide_eq_true_eq]; exact ⟨h.1, h.2.1, h.2.2.1, hwa⟩)
    simp only [E.mapE, E.simp1]
    generalize a.mapE E.simp1 = a' at *
    simp only [E.tm, nd, teK, Tm.kind, Tm.name, Tm.num, Tm.type, Tm.frm, Tm.label, Tm.kids, teR, List.length_cons, List.length_nil] at hc ⊢
    rw [teC_eq] at h2
    simp only [E.tm, nd, teR, Tm.kind, Tm.name, Tm.num, Tm.type, Tm.frm, Tm.label, Tm.kids] at h2
    cases e1 : s.ty.same t.ty
    · rw [e1] at h1
      cases e2 : backB s t a'
      · rw [e2] at h2
        refine fn_in ?_; refine acl_in Try.func67 rfl isfn_67 (Nat.le_of_ble_eq_true rfl) (fun R hR => ?_); rw [Try.results67] at hR; refine wg_run ?_; (simp only [Try.f67, go_sem])
        repeat' (first | (first | (((first | apply sp1 | apply sp2 | apply sp3 | apply sp4 | apply sp5 | apply sp6 | apply sp7) <;> intro hb) <;> (simp only [go_sem, hb])) | ((first | apply wm_done | apply wt_done | apply wg_run | refine fk ?_ ?_) <;> (simp only [go_sem]))) | (first | (refine wl_next (wg_run ?_); (simp only [go_sem])) | refine wd_rounds 6 ?_) | ((first | refine kdq [] ?_ (hc := hc) | refine kmq [] ?_ (hc := hc) | refine ktq [] ?_ (hc := hc)); rintro _ _ ⟨rfl, rfl⟩ <;> (simp only [go_sem])) | (first | refine cdq ?_ (hc := ih) | refine cmq ?_ (hc := ih) | refine ctq ?_ (hc := ih)); (simp only [go_sem]) | (first | refine cdq ?_ (hc := h1) | refine cmq ?_ (hc := h1) | refine ctq ?_ (hc := h1)); (simp only [go_sem]) | (first | refine cdq ?_ (hc := h2) | refine cmq ?_ (hc := h2) | refine ctq ?_ (hc := h2)); (simp only [go_sem]) | ((first | refine mxq6 [] ?_ | refine mxq5 [] ?_ | refine mxq4 [] ?_ | refine mxq3 [] ?_ | refine mxq2 [] ?_ | refine mxq1 [] ?_ | refine mxq0 [] ?_ | fail); (simp only [go_sem])) | fail)
        (refine hR _ (rat [] (hK := ⟨rfl, rfl⟩)))
      · rw [e2] at h2
        cases a' with
        | cast s' t' l' b =>
          simp only [E.tm, nd, E.kid0] at *
          refine fn_in ?_; refine acl_in Try.func67 rfl isfn_67 (Nat.le_of_ble_eq_true rfl) (fun R hR => ?_); rw [Try.results67] at hR; refine wg_run ?_; (simp only [Try.f67, go_sem])
          repeat' (first | (first | (((first | apply sp1 | apply sp2 | apply sp3 | apply sp4 | apply sp5 | apply sp6 | apply sp7) <;> intro hb) <;> (simp only [go_sem, hb])) | ((first | apply wm_done | apply wt_done | apply wg_run | refine fk ?_ ?_) <;> (simp only [go_sem]))) | (first | (refine wl_next (wg_run ?_); (simp only [go_sem])) | refine wd_rounds 6 ?_) | ((first | refine kdq [] ?_ (hc := hc) | refine kmq [] ?_ (hc := hc) | refine ktq [] ?_ (hc := hc)); rintro _ _ ⟨rfl, rfl⟩ <;> (simp only [go_sem])) | (first | refine cdq ?_ (hc := ih) | refine cmq ?_ (hc := ih) | refine ctq ?_ (hc := ih)); (simp only [go_sem]) | (first | refine cdq ?_ (hc := h1) | refine cmq ?_ (hc := h1) | refine ctq ?_ (hc := h1)); (simp only [go_sem]) | (first | refine cdq ?_ (hc := h2) | refine cmq ?_ (hc := h2) | refine ctq ?_ (hc := h2)); (simp only [go_sem]) | ((first | refine mxq6 [] ?_ | refine mxq5 [] ?_ | refine mxq4 [] ?_ | refine mxq3 [] ?_ | refine mxq2 [] ?_ | refine mxq1 [] ?_ | refine mxq0 [] ?_ | fail); (simp only [go_sem])) | fail)
          (refine hR _ (rat [] (hK := ⟨rfl, rfl⟩)))
        | _ => simp [backB] at e2
    · rw [e1] at h1
      simp only []
      refine fn_in ?_; refine acl_in Try.func67 rfl isfn_67 (Nat.le_of_ble_eq_true rfl) (fun R hR => ?_); rw [Try.results67] at hR; refine wg_run ?_; (simp only [Try.f67, go_sem])
      repeat' (first | (first | (((first | apply sp1 | apply sp2 | apply sp3 | apply sp4 | apply sp5 | apply sp6 | apply sp7) <;> intro hb) <;> (simp only [go_sem, hb])) | ((first | apply wm_done | apply wt_done | apply wg_run | refine fk ?_ ?_) <;> (simp only [go_sem]))) | (first | (refine wl_next (wg_run ?_); (simp only [go_sem])) | refine wd_rounds 6 ?_) | ((first | refine kdq [] ?_ (hc := hc) | refine kmq [] ?_ (hc := hc) | refine ktq [] ?_ (hc := hc)); rintro _ _ ⟨rfl, rfl⟩ <;> (simp only [go_sem])) | (first | refine cdq ?_ (hc := ih) | refine cmq ?_ (hc := ih) | refine ctq ?_ (hc := ih)); (simp only [go_sem]) | (first | refine cdq ?_ (hc := h1) | refine cmq ?_ (hc := h1) | refine ctq ?_ (hc := h1)); (simp only [go_sem]) | ((first | refine mxq6 [] ?_ | refine mxq5 [] ?_ | refine mxq4 [] ?_ | refine mxq3 [] ?_ | refine mxq2 [] ?_ | refine mxq1 [] ?_ | refine mxq0 [] ?_ | fail); (simp only [go_sem])) | fail)
      (refine hR _ (rat [] (hK := ⟨rfl, rfl⟩)))
  | lam x t a ih =>
    intro h hz
    simp only [E.wf, Bool.and_eq_true, decide_eq_true_eq] at h
    have hc := l2CopyS _ (by simp [E.tm, nd, Tm.kids]) hz
    simp only [E.tm, nd, Tm.size, Tm.sizes] at hz
    have ih := ih h.2.2 (by omega)
    simp only [E.mapE, E.simp1]
    simp only [E.tm, nd, teK, Tm.kind, Tm.name, Tm.num, Tm.type, Tm.frm, Tm.label, Tm.kids, teR, List.length_cons, List.length_nil] at hc ⊢
    refine fn_in ?_; refine acl_in Try.func67 rfl isfn_67 (Nat.le_of_ble_eq_true rfl) (fun R hR => ?_); rw [Try.results67] at hR; refine wg_run ?_; (simp only [Try.f67, go_sem])
    repeat' (first | (first | (((first | apply sp1 | apply sp2 | apply sp3 | apply sp4 | apply sp5 | apply sp6 | apply sp7) <;> intro hb) <;> (simp only [go_sem, hb])) | ((first | apply wm_done | apply wt_done | apply wg_run | refine fk ?_ ?_) <;> (simp only [go_sem]))) | (first | (refine wl_next (wg_run ?_); (simp only [go_sem])) | refine wd_rounds 6 ?_) | ((first | refine kdq [] ?_ (hc := hc) | refine kmq [] ?_ (hc := hc) | refine ktq [] ?_ (hc := hc)); rintro _ _ ⟨rfl, rfl⟩ <;> (simp only [go_sem])) | (first | refine cdq ?_ (hc := ih) | refine cmq ?_ (hc := ih) | refine ctq ?_ (hc := ih)); (simp only [go_sem]) | ((first | refine mxq6 [] ?_ | refine mxq5 [] ?_ | refine mxq4 [] ?_ | refine mxq3 [] ?_ | refine mxq2 [] ?_ | refine mxq1 [] ?_ | refine mxq0 [] ?_ | fail); (simp only [go_sem])) | fail)
    (refine hR _ (rat [] (hK := ⟨rfl, rfl⟩)))
  | fst a ih | snd a ih =>
    intro h hz
    simp only [E.wf, Bool.and_eq_true, decide_eq_true_eq] at h
    have hc := l2CopyS _ (by simp [E.tm, nd, Tm.kids]) hz
    simp only [E.tm, nd, Tm.size, Tm.sizes] at hz
    have ih := ih h (by omega)
    simp only [E.mapE, E.simp1]
    simp only [E.tm, nd, teK, Tm.kind, Tm.name, Tm.num, Tm.type, Tm.frm, Tm.label, Tm.kids, teR, List.length_cons, List.length_nil] at hc ⊢
    refine fn_in ?_; refine acl_in Try.func67 rfl isfn_67 (Nat.le_of_ble_eq_true rfl) (fun R hR => ?_); rw [Try.results67] at hR; refine wg_run ?_; (simp only [Try.f67, go_sem])
    repeat' (first | (first | (((first | apply sp1 | apply sp2 | apply sp3 | apply sp4 | apply sp5 | apply sp6 | apply sp7) <;> intro hb) <;> (simp only [go_sem, hb])) | ((first | apply wm_done | apply wt_done | apply wg_run | refine fk ?_ ?_) <;> (simp only [go_sem]))) | (first | (refine wl_next (wg_run ?_); (simp only [go_sem])) | refine wd_rounds 6 ?_) | ((first | refine kdq [] ?_ (hc := hc) | refine kmq [] ?_ (hc := hc) | refine ktq [] ?_ (hc := hc)); rintro _ _ ⟨rfl, rfl⟩ <;> (simp only [go_sem])) | (first | refine cdq ?_ (hc := ih) | refine cmq ?_ (hc := ih) | refine ctq ?_ (hc := ih)); (simp only [go_sem]) | ((first | refine mxq6 [] ?_ | refine mxq5 [] ?_ | refine mxq4 [] ?_ | refine mxq3 [] ?_ | refine mxq2 [] ?_ | refine mxq1 [] ?_ | refine mxq0 [] ?_ | fail); (simp only [go_sem])) | fail)
    (refine hR _ (rat [] (hK := ⟨rfl, rfl⟩)))
  | _ =>
    rename_i t a ih
    intro h hz
    simp only [E.wf, Bool.and_eq_true, decide_eq_true_eq] at h
    have hc := l2CopyS _ (by simp [E.tm, nd, Tm.kids]) hz
    simp only [E.tm, nd, Tm.size, Tm.sizes] at hz
    have ih := ih h.2 (by omega)
    simp only [E.mapE, E.simp1]
    simp only [E.tm, nd, teK, Tm.kind, Tm.name, Tm.num, Tm.type, Tm.frm, Tm.label, Tm.kids, teR, List.length_cons, List.length_nil] at hc ⊢
    refine fn_in ?_; refine acl_in Try.func67 rfl isfn_67 (Nat.le_of_ble_eq_true rfl) (fun R hR => ?_); rw [Try.results67] at hR; refine wg_run ?_; (simp only [Try.f67, go_sem])
    repeat' (first | (first | (((first | apply sp1 | apply sp2 | apply sp3 | apply sp4 | apply sp5 | apply sp6 | apply sp7) <;> intro hb) <;> (simp only [go_sem, hb])) | ((first | apply wm_done | apply wt_done | apply wg_run | refine fk ?_ ?_) <;> (simp only [go_sem]))) | (first | (refine wl_next (wg_run ?_); (simp only [go_sem])) | refine wd_rounds 6 ?_) | ((first | refine kdq [] ?_ (hc := hc) | refine kmq [] ?_ (hc := hc) | refine ktq [] ?_ (hc := hc)); rintro _ _ ⟨rfl, rfl⟩ <;> (simp only [go_sem])) | (first | refine cdq ?_ (hc := ih) | refine cmq ?_ (hc := ih) | refine ctq ?_ (hc := ih)); (simp only [go_sem]) | ((first | refine mxq6 [] ?_ | refine mxq5 [] ?_ | refine mxq4 [] ?_ | refine mxq3 [] ?_ | refine mxq2 [] ?_ | refine mxq1 [] ?_ | refine mxq0 [] ?_ | fail); (simp only [go_sem])) | fail)
    (refine hR _ (rat [] (hK := ⟨rfl, rfl⟩)))
theorem iRedundant (t : Tm) (h : t.size < 100000000) : AFn Try.prog 23 [.agg (teC t)] (.one (.sc (.int .i64 (Tm.redV t)))) := by
  have hv := iCastV t
  obtain ⟨s1, s2⟩ := Tm.redV_spec t
  cases hb : t.castV
  · rw [hb] at hv
    rw [s2 hb]
    refine fn_in ?_; refine acl_in Try.func23 rfl isfn_23 (Nat.le_of_ble_eq_true rfl) (fun R hR => ?_); rw [Try.results23] at hR; refine wg_run ?_; (simp only [Try.f23, go_sem])
    repeat' (first | (first | (((first | apply sp1 | apply sp2 | apply sp3 | apply sp4 | apply sp5 | apply sp6 | apply sp7) <;> intro hb) <;> (simp only [go_sem, hb])) | ((first | apply wm_done | apply wt_done | apply wg_run | refine fk ?_ ?_) <;> (simp only [go_sem]))) | (first | refine cdq ?_ (hc := hv) | refine cmq ?_ (hc := hv) | refine ctq ?_ (hc := hv)); (simp only [go_sem]))
    (refine hR _ (rat [] (hK := ⟨rfl, rfl⟩)))
  · rw [hb] at hv
    obtain ⟨e, rfl, he, hq⟩ := s1 hb
    simp only [E.okC, Bool.and_eq_true] at he
    rw [hq]
    have hz := e.simp_size
    have h1 := iCasts 100000000 (by omega) e.tm h
    have h2 := iCasts 100000000 (by omega) e.simp.tm (by omega)
    have h3 := iSimp e he.1
    have hw := red_wrap (a := e.tm.castsL.length) (b := e.simp.tm.castsL.length) (by have := e.tm.castsL_len; have := e.tm.nodes_le; omega) (by have := e.simp.tm.castsL_len; have := e.simp.tm.nodes_le; omega)
    refine fn_in ?_; refine acl_in Try.func23 rfl isfn_23 (Nat.le_of_ble_eq_true rfl) (fun R hR => ?_); rw [Try.results23] at hR; refine wg_run ?_; (simp only [Try.f23, go_sem, hw])
    repeat' (first | (first | (simp only [go_sem, hw]) | (((first | apply sp1 | apply sp2 | apply sp3 | apply sp4 | apply sp5 | apply sp6 | apply sp7) <;> intro hb) <;> (simp only [go_sem, hb, hw])) | ((first | apply wm_done | apply wt_done | apply wg_run | refine fk ?_ ?_) <;> (simp only [go_sem, hw]))) | (first | refine cdq ?_ (hc := hv) | refine cmq ?_ (hc := hv) | refine ctq ?_ (hc := hv)); (simp only [go_sem]) | (first | refine cdq ?_ (hc := h3) | refine cmq ?_ (hc := h3) | refine ctq ?_ (hc := h3)); (simp only [go_sem]) | (first | refine cdq ?_ (hc := h1) | refine cmq ?_ (hc := h1) | refine ctq ?_ (hc := h1)); (simp only [go_sem]) | (first | refine cdq ?_ (hc := h2) | refine cmq ?_ (hc := h2) | refine ctq ?_ (hc := h2)); (simp only [go_sem]) | ((first | refine mxq6 [] ?_ | refine mxq5 [] ?_ | refine mxq4 [] ?_ | refine mxq3 [] ?_ | refine mxq2 [] ?_ | refine mxq1 [] ?_ | refine mxq0 [] ?_ | fail); (simp only [go_sem, hw])) | fail)
    (refine hR _ (rat [] (hK := ⟨rfl, rfl⟩)))
end Go.Proofs.Ytnaebafafhamjaa
/- Simplified terms are simplified no further, and stay valid. No program, no world. -/
namespace Go.Proofs.Grad
/-- no cast of a term does nothing or undoes the one below it -/
def E.nf : E → Bool
  | .var _ | .num _ | .tru | .fls => true
  | .lam _ _ a | .fst a | .snd a | .asc _ a => a.nf
  | .app a b | .add a b | .less a b | .pair a b => a.nf && b.nf
  | .ite a b c => a.nf && (b.nf && c.nf)
  | .cast s t _ a => !(s.ty.same t.ty) && (!(backB s t a) && a.nf)
theorem E.kid0_nf {a : E} (h : a.nf = true) : a.kid0.nf = true := by
  cases a <;> simp only [E.kid0] <;> first | exact h | (simp only [E.nf, Bool.and_eq_true] at h; exact h.2.2)
theorem E.simp_nf (e : E) : e.simp.nf = true := by
  unfold E.simp
  induction e with
  | cast s t l a ih =>
    simp only [E.mapE, E.simp1]
    split
    · exact ih
    · rename_i h1
      split
      · exact E.kid0_nf ih
      · rename_i h2
        simp only [E.nf, h1, h2, ih]; rfl
  | app a b iha ihb | add a b iha ihb | less a b iha ihb | pair a b iha ihb => simp only [E.mapE, E.simp1, E.nf, iha, ihb]; rfl
  | ite a b c iha ihb ihc => simp only [E.mapE, E.simp1, E.nf, iha, ihb, ihc]; rfl
  | lam _ _ a ih | fst a ih | snd a ih | asc _ a ih => simp only [E.mapE, E.simp1, E.nf, ih]
  | _ => rfl
theorem E.nf_simp (e : E) : e.nf = true → e.simp = e := by
  unfold E.simp
  induction e with
  | cast s t l a ih =>
    intro h
    simp only [E.nf, Bool.and_eq_true, Bool.not_eq_true'] at h
    simp only [E.mapE, ih h.2.2, E.simp1, h.1, h.2.1]
  | app a b iha ihb | add a b iha ihb | less a b iha ihb | pair a b iha ihb =>
    intro h
    simp only [E.nf, Bool.and_eq_true] at h
    simp only [E.mapE, E.simp1, iha h.1, ihb h.2]
  | ite a b c iha ihb ihc =>
    intro h
    simp only [E.nf, Bool.and_eq_true] at h
    simp only [E.mapE, E.simp1, iha h.1, ihb h.2.1, ihc h.2.2]
  | lam _ _ a ih | fst a ih | snd a ih | asc _ a ih =>
    intro h
    simp only [E.nf] at h
    simp only [E.mapE, E.simp1, ih h]
  | _ => intro _; rfl
theorem E.simp_simp (e : E) : e.simp.simp = e.simp := E.nf_simp _ (E.simp_nf e)
theorem E.kid0_le (a : E) : a.kid0.depth ≤ a.depth ∧ a.kid0.nodes ≤ a.nodes := by cases a <;> simp only [E.kid0, E.depth, E.nodes] <;> omega
theorem E.simp1_le (x : E) : x.simp1.depth ≤ x.depth ∧ x.simp1.nodes ≤ x.nodes := by
  cases x <;> simp only [E.simp1] <;> try exact ⟨Nat.le_refl _, Nat.le_refl _⟩
  rename_i s t l a
  have h := E.kid0_le a
  split
  · simp only [E.depth, E.nodes]; omega
  · split
    · simp only [E.depth, E.nodes]; omega
    · exact ⟨Nat.le_refl _, Nat.le_refl _⟩
theorem E.simp_le (e : E) : e.simp.depth ≤ e.depth ∧ e.simp.nodes ≤ e.nodes := by
  unfold E.simp
  induction e with
  | cast s t l a ih =>
    simp only [E.mapE]
    have h := E.simp1_le (.cast s t l (a.mapE E.simp1))
    simp only [E.depth, E.nodes] at h ih ⊢; omega
  | app a b iha ihb | add a b iha ihb | less a b iha ihb | pair a b iha ihb => simp only [E.mapE, E.simp1, E.depth, E.nodes]; omega
  | ite a b c iha ihb ihc => simp only [E.mapE, E.simp1, E.depth, E.nodes]; omega
  | lam _ _ a ih | fst a ih | snd a ih | asc _ a ih => simp only [E.mapE, E.simp1, E.depth, E.nodes]; omega
  | _ => exact ⟨Nat.le_refl _, Nat.le_refl _⟩
theorem E.kid0_noA {a : E} (h : a.noA = true) : a.kid0.noA = true := by cases a <;> simp only [E.kid0] <;> first | exact h | (simp only [E.noA] at h; exact h)
theorem E.simp_noA (e : E) : e.noA = true → e.simp.noA = true := by
  unfold E.simp
  induction e with
  | cast s t l a ih =>
    intro h
    simp only [E.noA] at h
    simp only [E.mapE, E.simp1]
    split
    · exact ih h
    · split
      · exact E.kid0_noA (ih h)
      · simp only [E.noA]; exact ih h
  | app a b iha ihb | add a b iha ihb | less a b iha ihb | pair a b iha ihb =>
    intro h
    simp only [E.noA, Bool.and_eq_true] at h
    simp only [E.mapE, E.simp1, E.noA, iha h.1, ihb h.2]; rfl
  | ite a b c iha ihb ihc =>
    intro h
    simp only [E.noA, Bool.and_eq_true] at h
    simp only [E.mapE, E.simp1, E.noA, iha h.1, ihb h.2.1, ihc h.2.2]; rfl
  | lam _ _ a ih | fst a ih | snd a ih =>
    intro h
    simp only [E.noA] at h
    simp only [E.mapE, E.simp1, E.noA, ih h]
  | asc _ a ih => intro h; simp [E.noA] at h
  | _ => intro _; rfl
theorem E.simp_ok {e : E} (h : e.okC = true) : e.simp.okC = true := by
  simp only [E.okC, Bool.and_eq_true] at h ⊢
  have h1 := of_decide_eq_true h.2.2.1
  have h2 := of_decide_eq_true h.2.2.2
  have h3 := E.simp_le e
  exact ⟨E.simp_wf e h.1, E.simp_noA e h.2.1, decide_eq_true (by omega), decide_eq_true (by omega)⟩
theorem E.simp_red {e : E} (h : e.okC = true) : Tm.redV e.simp.tm = 0 := by
  obtain ⟨x, h1, _, h3⟩ := (Tm.redV_spec e.simp.tm).1 (by rw [E.castV_tm]; exact E.simp_ok h)
  have : x = e.simp := E.tm_inj _ _ h1
  subst this
  rw [h3, E.simp_simp]
  omega
end Go.Proofs.Grad
