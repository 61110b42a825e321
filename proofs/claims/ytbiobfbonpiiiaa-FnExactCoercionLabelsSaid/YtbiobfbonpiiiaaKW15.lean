/- Texts of the proof, one behind another. -/
import Derived.Laws.Strings
import Derived.Test.YtbiobfbonpiiiaaKW8
import Derived.Test.YtbiobfbonpiiiaaKW9
import Derived.Test.YtbiobfbonpiiiaaKW14
set_option linter.unusedSimpArgs false
set_option linter.unusedVariables false
/- Labels of coercions, in the program and in the reference. On shadows. -/
namespace Go.Proofs.Grad
/-- the labels of a coercion as it comes -/
noncomputable def Co.labsV (c : Co) : List Int := match c.k? with | some k => setL k.labels | none => []
theorem K.lab_ne {k : K} {l : Int} (h : lab l = true) : (l == 0) = false := by simp [lab] at h; simp; omega
end Go.Proofs.Grad
namespace Go.Proofs.Ytbiobfbonpiiiaa
open Go.RowKit Go.Proofs.Sh Go.Proofs.Grad
set_option maxRecDepth 100000
set_option maxHeartbeats 8000000
theorem l6Labels (k : K) : ∀ out : List Int, k.wf = true → out.length + k.size < 90000000 → AFn Try.prog 73 [.one (.sl (intR out)), .agg (coC k.co)] (.one (.sl (intR (insL out k.labels)))) := by
  induction k with
  | id g =>
    intro out _ _
    simp only [K.co]
    refine fn_in ?_; refine acl_in Try.func73 rfl isfn_73 (Nat.le_of_ble_eq_true rfl) (fun R hR => ?_); rw [Try.results73] at hR; refine wg_run ?_; (simp only [Try.f73, go_sem])
    repeat' (first | (first | (((first | apply sp1 | apply sp2 | apply sp3 | apply sp4 | apply sp5 | apply sp6 | apply sp7) <;> intro hb) <;> (simp only [go_sem, hb])) | ((first | apply wm_done | apply wt_done | apply wg_run | refine fk ?_ ?_) <;> (simp only [go_sem]))) | (first | (refine wl_next (wg_run ?_); (simp only [go_sem])) | refine wd_rounds 6 ?_) | fail)
    (refine hR _ (rat [] (hK := ⟨rfl, rfl⟩)))
  | fail l g =>
    intro out hw hz
    simp only [K.wf, Bool.and_eq_true] at hw
    have h0 := K.lab_ne (k := .id 1) hw.1.1
    simp only [K.size] at hz
    have hs := l4Sorted out l (by omega)
    simp only [K.co]
    refine fn_in ?_; refine acl_in Try.func73 rfl isfn_73 (Nat.le_of_ble_eq_true rfl) (fun R hR => ?_); rw [Try.results73] at hR; refine wg_run ?_; (simp only [Try.f73, go_sem, h0, int_bne])
    repeat' (first | (first | (simp only [go_sem, h0, int_bne]) | (((first | apply sp1 | apply sp2 | apply sp3 | apply sp4 | apply sp5 | apply sp6 | apply sp7) <;> intro hb) <;> (simp only [go_sem, hb, h0, int_bne])) | ((first | apply wm_done | apply wt_done | apply wg_run | refine fk ?_ ?_) <;> (simp only [go_sem, h0, int_bne]))) | (first | (refine wl_next (wg_run ?_); (simp only [go_sem])) | refine wd_rounds 6 ?_) | (first | refine cdq ?_ (hc := hs) | refine cmq ?_ (hc := hs) | refine ctq ?_ (hc := hs)); (simp only [go_sem]) | fail)
    (refine hR _ (rat [] (hK := ⟨rfl, rfl⟩)))
  | fn a b iha ihb | pr a b iha ihb =>
    intro out hw hz
    simp only [K.wf, Bool.and_eq_true] at hw
    simp only [K.size] at hz
    have hla := a.labels_len
    have hln := insL_len a.labels out
    have h1 := iha out hw.1 (by omega)
    have h2 := ihb (insL out a.labels) hw.2 (by omega)
    simp only [K.labels, insL_append]
    simp only [K.co]
    refine fn_in ?_; refine acl_in Try.func73 rfl isfn_73 (Nat.le_of_ble_eq_true rfl) (fun R hR => ?_); rw [Try.results73] at hR; refine wg_run ?_; (simp only [Try.f73, go_sem])
    repeat' (first | (first | (((first | apply sp1 | apply sp2 | apply sp3 | apply sp4 | apply sp5 | apply sp6 | apply sp7) <;> intro hb) <;> (simp only [go_sem, hb])) | ((first | apply wm_done | apply wt_done | apply wg_run | refine fk ?_ ?_) <;> (simp only [go_sem]))) | (first | (refine wl_next (wg_run ?_); (simp only [go_sem])) | refine wd_rounds 6 ?_) | ((first | refine mxq6 [] ?_ | refine mxq5 [] ?_ | refine mxq4 [] ?_ | refine mxq3 [] ?_ | refine mxq2 [] ?_ | refine mxq1 [] ?_ | refine mxq0 [] ?_ | fail); (simp only [go_sem])) | (first | refine cdq ?_ (hc := h1) | refine cmq ?_ (hc := h1) | refine ctq ?_ (hc := h1)); (simp only [go_sem]) | (first | refine cdq ?_ (hc := h2) | refine cmq ?_ (hc := h2) | refine ctq ?_ (hc := h2)); (simp only [go_sem]) | fail)
    (refine hR _ (rat [] (hK := ⟨rfl, rfl⟩)))
  | inj c ih =>
    intro out hw hz
    simp only [K.wf, Bool.and_eq_true] at hw
    simp only [K.size] at hz
    have h1 := ih out hw.2 (by omega)
    simp only [K.labels]
    simp only [K.co]
    refine fn_in ?_; refine acl_in Try.func73 rfl isfn_73 (Nat.le_of_ble_eq_true rfl) (fun R hR => ?_); rw [Try.results73] at hR; refine wg_run ?_; (simp only [Try.f73, go_sem])
    repeat' (first | (first | (((first | apply sp1 | apply sp2 | apply sp3 | apply sp4 | apply sp5 | apply sp6 | apply sp7) <;> intro hb) <;> (simp only [go_sem, hb])) | ((first | apply wm_done | apply wt_done | apply wg_run | refine fk ?_ ?_) <;> (simp only [go_sem]))) | (first | (refine wl_next (wg_run ?_); (simp only [go_sem])) | refine wd_rounds 6 ?_) | ((first | refine mxq6 [] ?_ | refine mxq5 [] ?_ | refine mxq4 [] ?_ | refine mxq3 [] ?_ | refine mxq2 [] ?_ | refine mxq1 [] ?_ | refine mxq0 [] ?_ | fail); (simp only [go_sem])) | (first | refine cdq ?_ (hc := h1) | refine cmq ?_ (hc := h1) | refine ctq ?_ (hc := h1)); (simp only [go_sem]) | fail)
    (refine hR _ (rat [] (hK := ⟨rfl, rfl⟩)))
  | prj l c ih =>
    intro out hw hz
    simp only [K.wf, Bool.and_eq_true] at hw
    have h0 := K.lab_ne (k := .id 1) hw.1.1.1
    simp only [K.size] at hz
    have hs := l4Sorted out l (by omega)
    have hln := insF_length l out
    have h1 := ih (insF out l) hw.2 (by omega)
    simp only [K.labels, show insL out (l :: c.labels) = insL (insF out l) c.labels from rfl]
    simp only [K.co]
    refine fn_in ?_; refine acl_in Try.func73 rfl isfn_73 (Nat.le_of_ble_eq_true rfl) (fun R hR => ?_); rw [Try.results73] at hR; refine wg_run ?_; (simp only [Try.f73, go_sem, h0, int_bne])
    repeat' (first | (first | (simp only [go_sem, h0, int_bne]) | (((first | apply sp1 | apply sp2 | apply sp3 | apply sp4 | apply sp5 | apply sp6 | apply sp7) <;> intro hb) <;> (simp only [go_sem, hb, h0, int_bne])) | ((first | apply wm_done | apply wt_done | apply wg_run | refine fk ?_ ?_) <;> (simp only [go_sem, h0, int_bne]))) | (first | (refine wl_next (wg_run ?_); (simp only [go_sem])) | refine wd_rounds 6 ?_) | ((first | refine mxq6 [] ?_ | refine mxq5 [] ?_ | refine mxq4 [] ?_ | refine mxq3 [] ?_ | refine mxq2 [] ?_ | refine mxq1 [] ?_ | refine mxq0 [] ?_ | fail); (simp only [go_sem, h0, int_bne])) | (first | refine cdq ?_ (hc := hs) | refine cmq ?_ (hc := hs) | refine ctq ?_ (hc := hs)); (simp only [go_sem]) | (first | refine cdq ?_ (hc := h1) | refine cmq ?_ (hc := h1) | refine ctq ?_ (hc := h1)); (simp only [go_sem]) | fail)
    (refine hR _ (rat [] (hK := ⟨rfl, rfl⟩)))
/-- a list as a slice of its own -/
def OwnL (l : List Int) (r : AV) (H' : List Blk) : Prop := match l with | [] => r = .one (.sc (.slice none 0 0)) ∧ H' = [] | z :: m => r = .one (.row 1 0 (m.length + 1)) ∧ H' = [⟨1, 3, .mut, intR (z :: m)⟩]
theorem iLabs (k : K) : k.wf = true → k.size < 90000000 → AFn Try.prog 75 [.agg (coC k.co)] (.one (.sl (intR k.labels))) := by
  induction k with
  | id g =>
    intro _ _
    simp only [K.co]
    refine fn_in ?_; refine acl_in Try.func75 rfl isfn_75 (Nat.le_of_ble_eq_true rfl) (fun R hR => ?_); rw [Try.results75] at hR; refine wg_run ?_; (simp only [Try.f75, go_sem])
    repeat' (first | (first | (((first | apply sp1 | apply sp2 | apply sp3 | apply sp4 | apply sp5 | apply sp6 | apply sp7) <;> intro hb) <;> (simp only [go_sem, hb])) | ((first | apply wm_done | apply wt_done | apply wg_run | refine fk ?_ ?_) <;> (simp only [go_sem]))) | (first | (refine wl_next (wg_run ?_); (simp only [go_sem])) | refine wd_rounds 6 ?_) | fail)
    (refine hR _ (rat [] (hK := ⟨rfl, rfl⟩)))
  | fail l g =>
    intro hw hz
    simp only [K.wf, Bool.and_eq_true] at hw
    have h0 := K.lab_ne (k := .id 1) hw.1.1
    simp only [K.co]
    refine fn_in ?_; refine acl_in Try.func75 rfl isfn_75 (Nat.le_of_ble_eq_true rfl) (fun R hR => ?_); rw [Try.results75] at hR; refine wg_run ?_; (simp only [Try.f75, go_sem, h0, int_bne])
    repeat' (first | (first | (simp only [go_sem, h0, int_bne]) | (((first | apply sp1 | apply sp2 | apply sp3 | apply sp4 | apply sp5 | apply sp6 | apply sp7) <;> intro hb) <;> (simp only [go_sem, hb, h0, int_bne])) | ((first | apply wm_done | apply wt_done | apply wg_run | refine fk ?_ ?_) <;> (simp only [go_sem, h0, int_bne]))) | (first | (refine wl_next (wg_run ?_); (simp only [go_sem])) | refine wd_rounds 6 ?_) | fail)
    (refine hR _ (rat [] (hK := ⟨rfl, rfl⟩)))
  | fn a b iha ihb | pr a b iha ihb =>
    intro hw hz
    simp only [K.wf, Bool.and_eq_true] at hw
    simp only [K.size] at hz
    have hla := a.labels_len
    have hlb := b.labels_len
    have h1 := iha hw.1 (by omega)
    have h2 := ihb hw.2 (by omega)
    simp only [K.labels]
    simp only [K.co]
    cases ea : a.labels with
    | nil =>
      rw [ea] at h1
      cases eb : b.labels with
      | nil =>
        rw [eb] at h2
        refine fn_in ?_; refine acl_in Try.func75 rfl isfn_75 (Nat.le_of_ble_eq_true rfl) (fun R hR => ?_); rw [Try.results75] at hR; refine wg_run ?_; (simp only [Try.f75, go_sem])
        repeat' (first | (first | (((first | apply sp1 | apply sp2 | apply sp3 | apply sp4 | apply sp5 | apply sp6 | apply sp7) <;> intro hb) <;> (simp only [go_sem, hb])) | ((first | apply wm_done | apply wt_done | apply wg_run | refine fk ?_ ?_) <;> (simp only [go_sem]))) | (first | (refine wl_next (wg_run ?_); (simp only [go_sem])) | refine wd_rounds 6 ?_) | (first | refine cdq ?_ (hc := h1) | refine cmq ?_ (hc := h1) | refine ctq ?_ (hc := h1)); (simp only [go_sem]) | (first | refine cdq ?_ (hc := h2) | refine cmq ?_ (hc := h2) | refine ctq ?_ (hc := h2)); (simp only [go_sem]) | fail)
        (refine hR _ (rat [] (hK := ⟨rfl, rfl⟩)))
      | cons z m =>
        rw [eb] at h2
        rw [eb, List.length_cons] at hlb
        have hc1 : (m.length + 1) * 8 ≤ 140737488355328 := by omega
        refine fn_in ?_; refine acl_in Try.func75 rfl isfn_75 (Nat.le_of_ble_eq_true rfl) (fun R hR => ?_); rw [Try.results75] at hR; refine wg_run ?_; (simp only [Try.f75, go_sem])
        repeat' (first | (first | (simp only [go_sem, hc1]) | (((first | apply sp1 | apply sp2 | apply sp3 | apply sp4 | apply sp5 | apply sp6 | apply sp7) <;> intro hb) <;> (simp only [go_sem, hb, hc1])) | ((first | apply wm_done | apply wt_done | apply wg_run | refine fk ?_ ?_) <;> (simp only [go_sem, hc1]))) | (first | (refine wl_next (wg_run ?_); (simp only [go_sem])) | refine wd_rounds 6 ?_) | (first | refine cdq ?_ (hc := h1) | refine cmq ?_ (hc := h1) | refine ctq ?_ (hc := h1)); (simp only [go_sem]) | (first | refine cdq ?_ (hc := h2) | refine cmq ?_ (hc := h2) | refine ctq ?_ (hc := h2)); (simp only [go_sem]) | fail)
        (refine hR _ (rat [] (hK := ⟨rfl, rfl⟩)))
    | cons y n =>
      rw [ea] at h1
      rw [ea, List.length_cons] at hla
      have hc0 : (n.length + 1) * 8 ≤ 140737488355328 := by omega
      cases eb : b.labels with
      | nil =>
        rw [eb] at h2
        refine fn_in ?_; refine acl_in Try.func75 rfl isfn_75 (Nat.le_of_ble_eq_true rfl) (fun R hR => ?_); rw [Try.results75] at hR; refine wg_run ?_; (simp only [Try.f75, go_sem])
        repeat' (first | (first | (simp only [go_sem, hc0]) | (((first | apply sp1 | apply sp2 | apply sp3 | apply sp4 | apply sp5 | apply sp6 | apply sp7) <;> intro hb) <;> (simp only [go_sem, hb, hc0])) | ((first | apply wm_done | apply wt_done | apply wg_run | refine fk ?_ ?_) <;> (simp only [go_sem, hc0]))) | (first | (refine wl_next (wg_run ?_); (simp only [go_sem])) | refine wd_rounds 6 ?_) | (first | refine cdq ?_ (hc := h1) | refine cmq ?_ (hc := h1) | refine ctq ?_ (hc := h1)); (simp only [go_sem]) | (first | refine cdq ?_ (hc := h2) | refine cmq ?_ (hc := h2) | refine ctq ?_ (hc := h2)); (simp only [go_sem]) | fail)
        (refine hR _ (rat [] (hK := ⟨?_, rfl⟩)))
        rw [List.append_nil]; rfl
      | cons z m =>
        rw [eb] at h2
        rw [eb, List.length_cons] at hlb
        have hc1 : (n.length + 1 + (m.length + 1)) * 8 ≤ 140737488355328 := by omega
        have hq : decide (n.length + (m.length + 1) + 1 = n.length + 1 + (m.length + 1)) = true := by simp; omega
        refine fn_in ?_; refine acl_in Try.func75 rfl isfn_75 (Nat.le_of_ble_eq_true rfl) (fun R hR => ?_); rw [Try.results75] at hR; refine wg_run ?_; (simp only [Try.f75, go_sem])
        repeat' (first | (first | (simp only [go_sem, hc0, hc1]) | (((first | apply sp1 | apply sp2 | apply sp3 | apply sp4 | apply sp5 | apply sp6 | apply sp7) <;> intro hb) <;> (simp only [go_sem, hb, hc0, hc1])) | ((first | apply wm_done | apply wt_done | apply wg_run | refine fk ?_ ?_) <;> (simp only [go_sem, hc0, hc1]))) | (first | (refine wl_next (wg_run ?_); (simp only [go_sem])) | refine wd_rounds 6 ?_) | (first | refine cdq ?_ (hc := h1) | refine cmq ?_ (hc := h1) | refine ctq ?_ (hc := h1)); (simp only [go_sem]) | (first | refine cdq ?_ (hc := h2) | refine cmq ?_ (hc := h2) | refine ctq ?_ (hc := h2)); (simp only [go_sem]) | fail)
        (refine hR _ (ret_at [] (by (simp only [go_sem, hq]); first | done | rfl) (by (simp only [go_sem, hq]); first | done | rfl) ⟨?_, rfl⟩))
        simp only [intR_append, intR, List.cons_append]
  | inj c ih =>
    intro hw hz
    simp only [K.wf, Bool.and_eq_true] at hw
    simp only [K.size] at hz
    have h1 := ih hw.2 (by omega)
    have hla := c.labels_len
    simp only [K.labels]
    simp only [K.co]
    cases ea : c.labels with
    | nil =>
      rw [ea] at h1
      refine fn_in ?_; refine acl_in Try.func75 rfl isfn_75 (Nat.le_of_ble_eq_true rfl) (fun R hR => ?_); rw [Try.results75] at hR; refine wg_run ?_; (simp only [Try.f75, go_sem])
      repeat' (first | (first | (((first | apply sp1 | apply sp2 | apply sp3 | apply sp4 | apply sp5 | apply sp6 | apply sp7) <;> intro hb) <;> (simp only [go_sem, hb])) | ((first | apply wm_done | apply wt_done | apply wg_run | refine fk ?_ ?_) <;> (simp only [go_sem]))) | (first | (refine wl_next (wg_run ?_); (simp only [go_sem])) | refine wd_rounds 6 ?_) | (first | refine cdq ?_ (hc := h1) | refine cmq ?_ (hc := h1) | refine ctq ?_ (hc := h1)); (simp only [go_sem]) | fail)
      (refine hR _ (rat [] (hK := ⟨rfl, rfl⟩)))
    | cons y n =>
      rw [ea] at h1
      rw [ea, List.length_cons] at hla
      have hc0 : (n.length + 1) * 8 ≤ 140737488355328 := by omega
      refine fn_in ?_; refine acl_in Try.func75 rfl isfn_75 (Nat.le_of_ble_eq_true rfl) (fun R hR => ?_); rw [Try.results75] at hR; refine wg_run ?_; (simp only [Try.f75, go_sem])
      repeat' (first | (first | (simp only [go_sem, hc0]) | (((first | apply sp1 | apply sp2 | apply sp3 | apply sp4 | apply sp5 | apply sp6 | apply sp7) <;> intro hb) <;> (simp only [go_sem, hb, hc0])) | ((first | apply wm_done | apply wt_done | apply wg_run | refine fk ?_ ?_) <;> (simp only [go_sem, hc0]))) | (first | (refine wl_next (wg_run ?_); (simp only [go_sem])) | refine wd_rounds 6 ?_) | (first | refine cdq ?_ (hc := h1) | refine cmq ?_ (hc := h1) | refine ctq ?_ (hc := h1)); (simp only [go_sem]) | fail)
      (refine hR _ (rat [] (hK := ⟨rfl, rfl⟩)))
  | prj l c ih =>
    intro hw hz
    simp only [K.wf, Bool.and_eq_true] at hw
    have h0 := K.lab_ne (k := .id 1) hw.1.1.1
    simp only [K.size] at hz
    have h1 := ih hw.2 (by omega)
    have hla := c.labels_len
    simp only [K.labels]
    simp only [K.co]
    cases ea : c.labels with
    | nil =>
      rw [ea] at h1
      refine fn_in ?_; refine acl_in Try.func75 rfl isfn_75 (Nat.le_of_ble_eq_true rfl) (fun R hR => ?_); rw [Try.results75] at hR; refine wg_run ?_; (simp only [Try.f75, go_sem, h0, int_bne])
      repeat' (first | (first | (simp only [go_sem, h0, int_bne]) | (((first | apply sp1 | apply sp2 | apply sp3 | apply sp4 | apply sp5 | apply sp6 | apply sp7) <;> intro hb) <;> (simp only [go_sem, hb, h0, int_bne])) | ((first | apply wm_done | apply wt_done | apply wg_run | refine fk ?_ ?_) <;> (simp only [go_sem, h0, int_bne]))) | (first | (refine wl_next (wg_run ?_); (simp only [go_sem])) | refine wd_rounds 6 ?_) | (first | refine cdq ?_ (hc := h1) | refine cmq ?_ (hc := h1) | refine ctq ?_ (hc := h1)); (simp only [go_sem]) | fail)
      (refine hR _ (rat [] (hK := ⟨rfl, rfl⟩)))
    | cons y n =>
      rw [ea] at h1
      rw [ea, List.length_cons] at hla
      have hc0 : (1 + (n.length + 1)) * 8 ≤ 140737488355328 := by omega
      have hc1 : (n.length + 1) * 8 ≤ 140737488355328 := by omega
      refine fn_in ?_; refine acl_in Try.func75 rfl isfn_75 (Nat.le_of_ble_eq_true rfl) (fun R hR => ?_); rw [Try.results75] at hR; refine wg_run ?_; (simp only [Try.f75, go_sem, h0, int_bne])
      have hq : decide (n.length + 1 + 1 = 1 + (n.length + 1)) = true := by simp; omega
      repeat' (first | (first | (simp only [go_sem, h0, int_bne, hc0, hc1]) | (((first | apply sp1 | apply sp2 | apply sp3 | apply sp4 | apply sp5 | apply sp6 | apply sp7) <;> intro hb) <;> (simp only [go_sem, hb, h0, int_bne, hc0, hc1])) | ((first | apply wm_done | apply wt_done | apply wg_run | refine fk ?_ ?_) <;> (simp only [go_sem, h0, int_bne, hc0, hc1]))) | (first | (refine wl_next (wg_run ?_); (simp only [go_sem])) | refine wd_rounds 6 ?_) | (first | refine cdq ?_ (hc := h1) | refine cmq ?_ (hc := h1) | refine ctq ?_ (hc := h1)); (simp only [go_sem]) | fail)
      (refine hR _ (ret_at [] (by (simp only [go_sem, hq]); first | done | rfl) (by (simp only [go_sem, hq]); first | done | rfl) ⟨?_, rfl⟩))
      rfl
theorem iLabsO (k : K) (hw : k.wf = true) (hz : k.size < 90000000) : ACl Try.prog 75 [.agg (coC k.co)] [] (OwnL k.labels) := by
  cases k with
  | id g =>
    simp only [K.co, K.labels, OwnL]
    refine acl_in Try.func75 rfl isfn_75 (Nat.le_of_ble_eq_true rfl) (fun R hR => ?_); rw [Try.results75] at hR; refine wg_run ?_; (simp only [Try.f75, go_sem])
    repeat' (first | (first | (((first | apply sp1 | apply sp2 | apply sp3 | apply sp4 | apply sp5 | apply sp6 | apply sp7) <;> intro hb) <;> (simp only [go_sem, hb])) | ((first | apply wm_done | apply wt_done | apply wg_run | refine fk ?_ ?_) <;> (simp only [go_sem]))) | (first | (refine wl_next (wg_run ?_); (simp only [go_sem])) | refine wd_rounds 6 ?_) | fail)
    exact hR _ (rwn [] (hK := ⟨rfl, rfl⟩))
  | fail l g =>
    simp only [K.wf, Bool.and_eq_true] at hw
    have h0 := K.lab_ne (k := .id 1) hw.1.1
    simp only [K.co, K.labels, OwnL]
    refine acl_in Try.func75 rfl isfn_75 (Nat.le_of_ble_eq_true rfl) (fun R hR => ?_); rw [Try.results75] at hR; refine wg_run ?_; (simp only [Try.f75, go_sem, h0, int_bne])
    repeat' (first | (first | (simp only [go_sem, h0, int_bne]) | (((first | apply sp1 | apply sp2 | apply sp3 | apply sp4 | apply sp5 | apply sp6 | apply sp7) <;> intro hb) <;> (simp only [go_sem, hb, h0, int_bne])) | ((first | apply wm_done | apply wt_done | apply wg_run | refine fk ?_ ?_) <;> (simp only [go_sem, h0, int_bne]))) | (first | (refine wl_next (wg_run ?_); (simp only [go_sem])) | refine wd_rounds 6 ?_) | fail)
    exact hR _ (rwn [2] (hK := ⟨rfl, rfl⟩))
  | fn a b | pr a b =>
    simp only [K.wf, Bool.and_eq_true] at hw
    simp only [K.size] at hz
    have hla := a.labels_len
    have hlb := b.labels_len
    have h1 := iLabs a hw.1 (by omega)
    have h2 := iLabs b hw.2 (by omega)
    simp only [K.labels]
    simp only [K.co]
    cases ea : a.labels with
    | nil =>
      rw [ea] at h1
      cases eb : b.labels with
      | nil =>
        rw [eb] at h2
        refine acl_in Try.func75 rfl isfn_75 (Nat.le_of_ble_eq_true rfl) (fun R hR => ?_); rw [Try.results75] at hR; refine wg_run ?_; (simp only [Try.f75, go_sem])
        repeat' (first | (first | (((first | apply sp1 | apply sp2 | apply sp3 | apply sp4 | apply sp5 | apply sp6 | apply sp7) <;> intro hb) <;> (simp only [go_sem, hb])) | ((first | apply wm_done | apply wt_done | apply wg_run | refine fk ?_ ?_) <;> (simp only [go_sem]))) | (first | (refine wl_next (wg_run ?_); (simp only [go_sem])) | refine wd_rounds 6 ?_) | (first | refine cdq ?_ (hc := h1) | refine cmq ?_ (hc := h1) | refine ctq ?_ (hc := h1)); (simp only [go_sem]) | (first | refine cdq ?_ (hc := h2) | refine cmq ?_ (hc := h2) | refine ctq ?_ (hc := h2)); (simp only [go_sem]) | fail)
        exact hR _ (rwn [] (hK := ⟨rfl, rfl⟩))
      | cons z m =>
        rw [eb] at h2
        rw [eb, List.length_cons] at hlb
        have hc1 : (m.length + 1) * 8 ≤ 140737488355328 := by omega
        refine acl_in Try.func75 rfl isfn_75 (Nat.le_of_ble_eq_true rfl) (fun R hR => ?_); rw [Try.results75] at hR; refine wg_run ?_; (simp only [Try.f75, go_sem])
        repeat' (first | (first | (simp only [go_sem, hc1]) | (((first | apply sp1 | apply sp2 | apply sp3 | apply sp4 | apply sp5 | apply sp6 | apply sp7) <;> intro hb) <;> (simp only [go_sem, hb, hc1])) | ((first | apply wm_done | apply wt_done | apply wg_run | refine fk ?_ ?_) <;> (simp only [go_sem, hc1]))) | (first | (refine wl_next (wg_run ?_); (simp only [go_sem])) | refine wd_rounds 6 ?_) | (first | refine cdq ?_ (hc := h1) | refine cmq ?_ (hc := h1) | refine ctq ?_ (hc := h1)); (simp only [go_sem]) | (first | refine cdq ?_ (hc := h2) | refine cmq ?_ (hc := h2) | refine ctq ?_ (hc := h2)); (simp only [go_sem]) | fail)
        exact hR _ (rwn [3] (hK := ⟨rfl, rfl⟩))
    | cons y n =>
      rw [ea] at h1
      rw [ea, List.length_cons] at hla
      have hc0 : (n.length + 1) * 8 ≤ 140737488355328 := by omega
      cases eb : b.labels with
      | nil =>
        rw [eb] at h2
        rw [List.append_nil]
        refine acl_in Try.func75 rfl isfn_75 (Nat.le_of_ble_eq_true rfl) (fun R hR => ?_); rw [Try.results75] at hR; refine wg_run ?_; (simp only [Try.f75, go_sem])
        repeat' (first | (first | (simp only [go_sem, hc0]) | (((first | apply sp1 | apply sp2 | apply sp3 | apply sp4 | apply sp5 | apply sp6 | apply sp7) <;> intro hb) <;> (simp only [go_sem, hb, hc0])) | ((first | apply wm_done | apply wt_done | apply wg_run | refine fk ?_ ?_) <;> (simp only [go_sem, hc0]))) | (first | (refine wl_next (wg_run ?_); (simp only [go_sem])) | refine wd_rounds 6 ?_) | (first | refine cdq ?_ (hc := h1) | refine cmq ?_ (hc := h1) | refine ctq ?_ (hc := h1)); (simp only [go_sem]) | (first | refine cdq ?_ (hc := h2) | refine cmq ?_ (hc := h2) | refine ctq ?_ (hc := h2)); (simp only [go_sem]) | fail)
        exact hR _ (rwn [2] (hK := ⟨rfl, rfl⟩))
      | cons z m =>
        rw [eb] at h2
        rw [eb, List.length_cons] at hlb
        have hc1 : (n.length + 1 + (m.length + 1)) * 8 ≤ 140737488355328 := by omega
        have hq : n.length + (m.length + 1) + 1 = n.length + 1 + (m.length + 1) := by omega
        have hx : ([C.sc (Value.int IntKind.i64 y)] :: (intR n ++ [C.sc (Value.int IntKind.i64 z)] :: intR m)) = intR (y :: (n ++ z :: m)) := by simp only [intR_append, intR]
        rw [List.cons_append]
        refine acl_in Try.func75 rfl isfn_75 (Nat.le_of_ble_eq_true rfl) (fun R hR => ?_); rw [Try.results75] at hR; refine wg_run ?_; (simp only [Try.f75, go_sem])
        repeat' (first | (first | (simp only [go_sem, hc0, hc1]) | (((first | apply sp1 | apply sp2 | apply sp3 | apply sp4 | apply sp5 | apply sp6 | apply sp7) <;> intro hb) <;> (simp only [go_sem, hb, hc0, hc1])) | ((first | apply wm_done | apply wt_done | apply wg_run | refine fk ?_ ?_) <;> (simp only [go_sem, hc0, hc1]))) | (first | (refine wl_next (wg_run ?_); (simp only [go_sem])) | refine wd_rounds 6 ?_) | (first | refine cdq ?_ (hc := h1) | refine cmq ?_ (hc := h1) | refine ctq ?_ (hc := h1)); (simp only [go_sem]) | (first | refine cdq ?_ (hc := h2) | refine cmq ?_ (hc := h2) | refine ctq ?_ (hc := h2)); (simp only [go_sem]) | fail)
        refine hR _ (rwn [4] (hK := ⟨?_, ?_⟩))
        · simp only [List.length_append, List.length_cons]; rw [← hq, Nat.add_assoc]
        · rw [hx]
  | inj c =>
    simp only [K.wf, Bool.and_eq_true] at hw
    simp only [K.size] at hz
    have h1 := iLabs c hw.2 (by omega)
    have hla := c.labels_len
    simp only [K.labels]
    simp only [K.co]
    cases ea : c.labels with
    | nil =>
      rw [ea] at h1
      refine acl_in Try.func75 rfl isfn_75 (Nat.le_of_ble_eq_true rfl) (fun R hR => ?_); rw [Try.results75] at hR; refine wg_run ?_; (simp only [Try.f75, go_sem])
      repeat' (first | (first | (((first | apply sp1 | apply sp2 | apply sp3 | apply sp4 | apply sp5 | apply sp6 | apply sp7) <;> intro hb) <;> (simp only [go_sem, hb])) | ((first | apply wm_done | apply wt_done | apply wg_run | refine fk ?_ ?_) <;> (simp only [go_sem]))) | (first | (refine wl_next (wg_run ?_); (simp only [go_sem])) | refine wd_rounds 6 ?_) | (first | refine cdq ?_ (hc := h1) | refine cmq ?_ (hc := h1) | refine ctq ?_ (hc := h1)); (simp only [go_sem]) | fail)
      exact hR _ (rwn [] (hK := ⟨rfl, rfl⟩))
    | cons y n =>
      rw [ea] at h1
      rw [ea, List.length_cons] at hla
      have hc0 : (n.length + 1) * 8 ≤ 140737488355328 := by omega
      refine acl_in Try.func75 rfl isfn_75 (Nat.le_of_ble_eq_true rfl) (fun R hR => ?_); rw [Try.results75] at hR; refine wg_run ?_; (simp only [Try.f75, go_sem])
      repeat' (first | (first | (simp only [go_sem, hc0]) | (((first | apply sp1 | apply sp2 | apply sp3 | apply sp4 | apply sp5 | apply sp6 | apply sp7) <;> intro hb) <;> (simp only [go_sem, hb, hc0])) | ((first | apply wm_done | apply wt_done | apply wg_run | refine fk ?_ ?_) <;> (simp only [go_sem, hc0]))) | (first | (refine wl_next (wg_run ?_); (simp only [go_sem])) | refine wd_rounds 6 ?_) | (first | refine cdq ?_ (hc := h1) | refine cmq ?_ (hc := h1) | refine ctq ?_ (hc := h1)); (simp only [go_sem]) | fail)
      exact hR _ (rwn [2] (hK := ⟨rfl, rfl⟩))
  | prj l c =>
    simp only [K.wf, Bool.and_eq_true] at hw
    have h0 := K.lab_ne (k := .id 1) hw.1.1.1
    simp only [K.size] at hz
    have h1 := iLabs c hw.2 (by omega)
    have hla := c.labels_len
    simp only [K.labels]
    simp only [K.co]
    cases ea : c.labels with
    | nil =>
      rw [ea] at h1
      refine acl_in Try.func75 rfl isfn_75 (Nat.le_of_ble_eq_true rfl) (fun R hR => ?_); rw [Try.results75] at hR; refine wg_run ?_; (simp only [Try.f75, go_sem, h0, int_bne])
      repeat' (first | (first | (simp only [go_sem, h0, int_bne]) | (((first | apply sp1 | apply sp2 | apply sp3 | apply sp4 | apply sp5 | apply sp6 | apply sp7) <;> intro hb) <;> (simp only [go_sem, hb, h0, int_bne])) | ((first | apply wm_done | apply wt_done | apply wg_run | refine fk ?_ ?_) <;> (simp only [go_sem, h0, int_bne]))) | (first | (refine wl_next (wg_run ?_); (simp only [go_sem])) | refine wd_rounds 6 ?_) | (first | refine cdq ?_ (hc := h1) | refine cmq ?_ (hc := h1) | refine ctq ?_ (hc := h1)); (simp only [go_sem]) | fail)
      first
        | exact hR _ (rwn [1] (hK := ⟨rfl, rfl⟩))
        | exact hR _ (rwn [2] (hK := ⟨rfl, rfl⟩))
        | exact hR _ (rwn [3] (hK := ⟨rfl, rfl⟩))
    | cons y n =>
      rw [ea] at h1
      rw [ea, List.length_cons] at hla
      have hc0 : (1 + (n.length + 1)) * 8 ≤ 140737488355328 := by omega
      have hc1 : (n.length + 1) * 8 ≤ 140737488355328 := by omega
      have hq : 1 + (n.length + 1) = n.length + 1 + 1 := by omega
      refine acl_in Try.func75 rfl isfn_75 (Nat.le_of_ble_eq_true rfl) (fun R hR => ?_); rw [Try.results75] at hR; refine wg_run ?_; (simp only [Try.f75, go_sem, h0, int_bne])
      repeat' (first | (first | (simp only [go_sem, h0, int_bne, hc0, hc1]) | (((first | apply sp1 | apply sp2 | apply sp3 | apply sp4 | apply sp5 | apply sp6 | apply sp7) <;> intro hb) <;> (simp only [go_sem, hb, h0, int_bne, hc0, hc1])) | ((first | apply wm_done | apply wt_done | apply wg_run | refine fk ?_ ?_) <;> (simp only [go_sem, h0, int_bne, hc0, hc1]))) | (first | (refine wl_next (wg_run ?_); (simp only [go_sem])) | refine wd_rounds 6 ?_) | (first | refine cdq ?_ (hc := h1) | refine cmq ?_ (hc := h1) | refine ctq ?_ (hc := h1)); (simp only [go_sem]) | fail)
      refine hR _ (rwn [4] (hK := ⟨?_, ?_⟩))
      · simp only [List.length_cons]; rw [hq]
      · rfl
/-- the labels, in order, each once -/
theorem iCoLabs (c : Co) (h : c.size < 90000000) : AFn Try.prog 33 [.agg (coC c)] (.one (.sl (intR c.labsV))) := by
  have hv := coValid c
  unfold Co.labsV
  cases e : c.k? with
  | none =>
    rw [Co.k?_none e] at hv
    refine fn_in ?_; refine acl_in Try.func33 rfl isfn_33 (Nat.le_of_ble_eq_true rfl) (fun R hR => ?_); rw [Try.results33] at hR; refine wg_run ?_; (simp only [Try.f33, go_sem])
    repeat' (first | (first | (((first | apply sp1 | apply sp2 | apply sp3 | apply sp4 | apply sp5 | apply sp6 | apply sp7) <;> intro hb) <;> (simp only [go_sem, hb])) | ((first | apply wm_done | apply wt_done | apply wg_run | refine fk ?_ ?_) <;> (simp only [go_sem]))) | (first | refine cdq ?_ (hc := hv) | refine cmq ?_ (hc := hv) | refine ctq ?_ (hc := hv)); (simp only [go_sem]))
    (refine hR _ (rat [] (hK := ⟨rfl, rfl⟩)))
  | some k =>
    obtain ⟨rfl, hk⟩ := Co.k?_some e
    rw [K.ok_valid, hk] at hv
    simp only [K.ok, Bool.and_eq_true] at hk
    rw [K.co_size] at h
    have hl := iLabsO k hk.1 h
    have hll := k.labels_len
    simp only []
    cases el : k.labels with
    | nil =>
      rw [el] at hl
      have e0 : setL [] = [] := (setL_nil_iff []).2 rfl
      have s1 := sortNil
      have s2 := compNil
      rw [e0]
      refine fn_in ?_; refine acl_in Try.func33 rfl isfn_33 (Nat.le_of_ble_eq_true rfl) (fun R hR => ?_); rw [Try.results33] at hR; refine wg_run ?_; (simp only [Try.f33, go_sem])
      repeat' (first | (first | (((first | apply sp1 | apply sp2 | apply sp3 | apply sp4 | apply sp5 | apply sp6 | apply sp7) <;> intro hb) <;> (simp only [go_sem, hb])) | ((first | apply wm_done | apply wt_done | apply wg_run | refine fk ?_ ?_) <;> (simp only [go_sem]))) | (first | refine cdq ?_ (hc := hv) | refine cmq ?_ (hc := hv) | refine ctq ?_ (hc := hv)); (simp only [go_sem]) | ((first | refine kdq [] ?_ (hc := hl) | refine kmq [] ?_ (hc := hl) | refine ktq [] ?_ (hc := hl)); rintro _ _ ⟨rfl, rfl⟩ <;> (simp only [go_sem])) | (first | refine cdq ?_ (hc := s1) | refine cmq ?_ (hc := s1) | refine ctq ?_ (hc := s1)); (simp only [go_sem]) | (first | refine cdq ?_ (hc := s2) | refine cmq ?_ (hc := s2) | refine ctq ?_ (hc := s2)); (simp only [go_sem]) | fail)
      (refine hR _ (rat [] (hK := ⟨rfl, rfl⟩)))
    | cons z m =>
      rw [el] at hl hll
      simp only [List.length_cons] at hll
      have s1 := sortCall (z :: m) (by simp only [List.length_cons]; omega)
      have s2 := compCall (srt (z :: m)) (by rw [srt_length]; simp only [List.length_cons]; omega)
      rw [srt_length] at s2
      simp only [List.length_cons] at s1 s2
      simp only [show Lib.compact (srt (z :: m)) = setL (z :: m) from rfl] at s2
      refine fn_in ?_; refine acl_in Try.func33 rfl isfn_33 (Nat.le_of_ble_eq_true rfl) (fun R hR => ?_); rw [Try.results33] at hR; refine wg_run ?_; (simp only [Try.f33, go_sem])
      repeat' (first | (first | (((first | apply sp1 | apply sp2 | apply sp3 | apply sp4 | apply sp5 | apply sp6 | apply sp7) <;> intro hb) <;> (simp only [go_sem, hb])) | ((first | apply wm_done | apply wt_done | apply wg_run | refine fk ?_ ?_) <;> (simp only [go_sem]))) | (first | refine cdq ?_ (hc := hv) | refine cmq ?_ (hc := hv) | refine ctq ?_ (hc := hv)); (simp only [go_sem]) | ((first | refine kdq [] ?_ (hc := hl) | refine kmq [] ?_ (hc := hl) | refine ktq [] ?_ (hc := hl)); rintro _ _ ⟨rfl, rfl⟩ <;> (simp only [go_sem])) | ((first | refine kdq [0] ?_ (hc := s1) | refine kmq [0] ?_ (hc := s1) | refine ktq [0] ?_ (hc := s1)); rintro _ _ ⟨rfl, rfl⟩ <;> (simp only [go_sem])) | ((first | refine kdq [1] ?_ (hc := s1) | refine kmq [1] ?_ (hc := s1) | refine ktq [1] ?_ (hc := s1)); rintro _ _ ⟨rfl, rfl⟩ <;> (simp only [go_sem])) | ((first | refine kdq [0] ?_ (hc := s2) | refine kmq [0] ?_ (hc := s2) | refine ktq [0] ?_ (hc := s2)); rintro _ _ ⟨rfl, rfl⟩ <;> (simp only [go_sem])) | ((first | refine kdq [1] ?_ (hc := s2) | refine kmq [1] ?_ (hc := s2) | refine ktq [1] ?_ (hc := s2)); rintro _ _ ⟨rfl, rfl⟩ <;> (simp only [go_sem])) | fail)
      (refine hR _ (rat [] (hK := ⟨rfl, rfl⟩)))
theorem sCoLabs (c : Co) (h : c.size < 90000000) : AFn Try.prog 31 [.agg (coC c)] (.one (.sl (intR c.labsV))) := by
  have hv := sCoValid c (by omega)
  unfold Co.labsV
  cases e : c.k? with
  | none =>
    rw [Co.k?_none e] at hv
    refine fn_in ?_; refine acl_in Try.func31 rfl isfn_31 (Nat.le_of_ble_eq_true rfl) (fun R hR => ?_); rw [Try.results31] at hR; refine wg_run ?_; (simp only [Try.f31, go_sem])
    repeat' (first | (first | (((first | apply sp1 | apply sp2 | apply sp3 | apply sp4 | apply sp5 | apply sp6 | apply sp7) <;> intro hb) <;> (simp only [go_sem, hb])) | ((first | apply wm_done | apply wt_done | apply wg_run | refine fk ?_ ?_) <;> (simp only [go_sem]))) | (first | refine cdq ?_ (hc := hv) | refine cmq ?_ (hc := hv) | refine ctq ?_ (hc := hv)); (simp only [go_sem]))
    (refine hR _ (rat [] (hK := ⟨rfl, rfl⟩)))
  | some k =>
    obtain ⟨rfl, hk⟩ := Co.k?_some e
    rw [K.ok_valid, hk] at hv
    simp only [K.ok, Bool.and_eq_true] at hk
    rw [K.co_size] at h
    have hl := l6Labels k [] hk.1 (by simp only [List.length_nil]; omega)
    rw [insL_setL] at hl
    refine fn_in ?_; refine acl_in Try.func31 rfl isfn_31 (Nat.le_of_ble_eq_true rfl) (fun R hR => ?_); rw [Try.results31] at hR; refine wg_run ?_; (simp only [Try.f31, go_sem])
    repeat' (first | (first | (((first | apply sp1 | apply sp2 | apply sp3 | apply sp4 | apply sp5 | apply sp6 | apply sp7) <;> intro hb) <;> (simp only [go_sem, hb])) | ((first | apply wm_done | apply wt_done | apply wg_run | refine fk ?_ ?_) <;> (simp only [go_sem]))) | (first | refine cdq ?_ (hc := hv) | refine cmq ?_ (hc := hv) | refine ctq ?_ (hc := hv)); (simp only [go_sem]) | (first | refine cdq ?_ (hc := hl) | refine cmq ?_ (hc := hl) | refine ctq ?_ (hc := hl)); (simp only [go_sem]) | ((first | refine mxq6 [] ?_ | refine mxq5 [] ?_ | refine mxq4 [] ?_ | refine mxq3 [] ?_ | refine mxq2 [] ?_ | refine mxq1 [] ?_ | refine mxq0 [] ?_ | fail); (simp only [go_sem])) | fail)
    (refine hR _ (rat [] (hK := ⟨rfl, rfl⟩)))
end Go.Proofs.Ytbiobfbonpiiiaa
/- Relations on types that are valid. No program, no world. -/
namespace Go.Proofs.Grad
open Classical in
/-- the relation, where both types are valid -/
noncomputable def onT (R : T → T → Bool) (a b : Ty) : Bool := decide (∃ x y : T, x.ty = a ∧ y.ty = b ∧ x.depth ≤ 4 ∧ y.depth ≤ 4 ∧ R x y = true)

end Go.Proofs.Grad
/- Terms as trees, their checks and their forms. No program, no world. -/
namespace Go.Proofs.Grad

/-- terms as they come -/
inductive Tm where
  | mk (kind : Int) (name : ByteArray) (num : Int) (type frm : Ty) (label : Int) (kids : List Tm)
def Tm.kind : Tm → Int | .mk k _ _ _ _ _ _ => k
def Tm.name : Tm → ByteArray | .mk _ n _ _ _ _ _ => n
def Tm.num : Tm → Int | .mk _ _ n _ _ _ _ => n
def Tm.type : Tm → Ty | .mk _ _ _ t _ _ _ => t
def Tm.frm : Tm → Ty | .mk _ _ _ _ t _ _ => t
def Tm.label : Tm → Int | .mk _ _ _ _ _ l _ => l
def Tm.kids : Tm → List Tm | .mk _ _ _ _ _ _ l => l
mutual
def Tm.size : Tm → Nat
  | .mk _ _ _ t f _ l => 1 + (t.size + f.size + Tm.sizes l)
def Tm.sizes : List Tm → Nat
  | [] => 0
  | t :: l => t.size + Tm.sizes l
end
mutual
def Tm.nodes : Tm → Nat
  | .mk _ _ _ _ _ _ l => 1 + Tm.nodess l
def Tm.nodess : List Tm → Nat
  | [] => 0
  | t :: l => t.nodes + Tm.nodess l
end
theorem bytes_ext {a b : ByteArray} (h : a.toList = b.toList) : a = b := by
  rw [Go.ByteArray.toList_eq, Go.ByteArray.toList_eq] at h
  obtain ⟨⟨a⟩⟩ := a; obtain ⟨⟨b⟩⟩ := b
  simp at h; subst h; rfl
mutual
def Tm.same : Tm → Tm → Bool
  | .mk k n m t f l a, .mk k' n' m' t' f' l' b => k == k' && (n.toList == n'.toList && (m == m' && (t.same t' && (f.same f' && (l == l' && Tm.sames a b)))))
def Tm.sames : List Tm → List Tm → Bool
  | [], [] => true
  | a :: l, b :: m => a.same b && Tm.sames l m
  | _, _ => false
end
mutual
theorem Tm.same_iff : ∀ a b : Tm, a.same b = true ↔ a = b
  | .mk k n m t f l a, .mk k' n' m' t' f' l' b => by
    simp only [Tm.same, Bool.and_eq_true, beq_iff_eq, Ty.same_iff, Tm.sames_iff a b, Tm.mk.injEq]
    exact ⟨fun ⟨h1, h2, h3, h4, h5, h6, h7⟩ => ⟨h1, bytes_ext h2, h3, h4, h5, h6, h7⟩, fun ⟨h1, h2, h3, h4, h5, h6, h7⟩ => ⟨h1, by rw [h2], h3, h4, h5, h6, h7⟩⟩
theorem Tm.sames_iff : ∀ a b : List Tm, Tm.sames a b = true ↔ a = b
  | [], [] => by simp [Tm.sames]
  | [], _ :: _ => by simp [Tm.sames]
  | _ :: _, [] => by simp [Tm.sames]
  | a :: l, b :: m => by simp [Tm.sames, Tm.same_iff a b, Tm.sames_iff l m]
end
theorem Tm.same_refl (a : Tm) : a.same a = true := (Tm.same_iff a a).2 rfl

/-! ### checks of a node -/
/-- a name -/
def nmOk (s : ByteArray) : Bool := s.size == 1 && (match s[0]? with | some b => decide (97 ≤ (b.toNat : Int)) && decide ((b.toNat : Int) ≤ 122) | none => false)
def nm (b : UInt8) : ByteArray := ⟨#[b]⟩
def nmB (b : UInt8) : Bool := decide (97 ≤ (b.toNat : Int)) && decide ((b.toNat : Int) ≤ 122)
/-- how many operands -/
def opN (k : Int) : Int := if k = 1 then 0 else if k = 2 then 0 else if k = 3 then 0 else if k = 4 then 0 else if k = 5 then 1 else if k = 6 then 2 else if k = 7 then 2 else if k = 8 then 2 else if k = 9 then 3 else if k = 10 then 2 else if k = 11 then 1 else if k = 12 then 1 else if k = 13 then 1 else if k = 14 then 1 else -1
def noTy : Ty := .mk 0 []
def Ty.isNo (t : Ty) : Bool := t.kind == 0 && t.kids.length == 0
noncomputable def Tm.nodeOk (t : Tm) : Bool :=
  opN t.kind == (t.kids.length : Int) &&
  ((if t.kind = 1 ∨ t.kind = 5 then nmOk t.name else t.name.size == 0) &&
  ((decide (0 ≤ t.num) && decide (t.num ≤ if t.kind = 2 then 999 else 0)) &&
  ((if t.kind = 5 ∨ t.kind = 13 ∨ t.kind = 14 then t.type.valid else t.type.isNo) &&
  (if t.kind = 14 then onT T.cons t.frm t.type && lab t.label else t.frm.isNo && t.label == 0))))
noncomputable def Tm.shape (no : Int) : Nat → Tm → Bool
  | 0, _ => false
  | d + 1, t => t.kind != no && (t.nodeOk && t.kids.all (Tm.shape no d))
noncomputable def Tm.castV (t : Tm) : Bool := t.shape 13 40 && decide (t.nodes ≤ 200)

/-! ### forms -/
inductive E where
  | var (x : UInt8) | num (n : Int) | tru | fls | lam (x : UInt8) (t : T) (e : E) | app (a b : E) | add (a b : E) | less (a b : E) | ite (a b c : E) | pair (a b : E) | fst (a : E) | snd (a : E) | asc (t : T) (a : E) | cast (s t : T) (l : Int) (a : E)
/-- a node with no name, no number, no types, no label -/
def nd (k : Int) (l : List Tm) : Tm := .mk k ByteArray.empty 0 noTy noTy 0 l
def E.tm : E → Tm
  | .var x => .mk 1 (nm x) 0 noTy noTy 0 []
  | .num n => .mk 2 ByteArray.empty n noTy noTy 0 []
  | .tru => nd 3 []
  | .fls => nd 4 []
  | .lam x t e => .mk 5 (nm x) 0 t.ty noTy 0 [e.tm]
  | .app a b => nd 6 [a.tm, b.tm]
  | .add a b => nd 7 [a.tm, b.tm]
  | .less a b => nd 8 [a.tm, b.tm]
  | .ite a b c => nd 9 [a.tm, b.tm, c.tm]
  | .pair a b => nd 10 [a.tm, b.tm]
  | .fst a => nd 11 [a.tm]
  | .snd a => nd 12 [a.tm]
  | .asc t a => .mk 13 ByteArray.empty 0 t.ty noTy 0 [a.tm]
  | .cast s t l a => .mk 14 ByteArray.empty 0 t.ty s.ty l [a.tm]
def E.kids : E → List E
  | .var _ | .num _ | .tru | .fls => []
  | .lam _ _ a | .fst a | .snd a | .asc _ a | .cast _ _ _ a => [a]
  | .app a b | .add a b | .less a b | .pair a b => [a, b]
  | .ite a b c => [a, b, c]
def E.wf : E → Bool
  | .var x => nmB x
  | .num n => decide (0 ≤ n) && decide (n ≤ 999)
  | .tru | .fls => true
  | .lam x t a => nmB x && (decide (t.depth ≤ 4) && a.wf)
  | .app a b | .add a b | .less a b | .pair a b => a.wf && b.wf
  | .ite a b c => a.wf && (b.wf && c.wf)
  | .fst a | .snd a => a.wf
  | .asc t a => decide (t.depth ≤ 4) && a.wf
  | .cast s t l a => (decide (s.depth ≤ 4) && decide (t.depth ≤ 4)) && (s.cons t && (lab l && a.wf))
def E.depth : E → Nat
  | .var _ | .num _ | .tru | .fls => 1
  | .lam _ _ a | .fst a | .snd a | .asc _ a | .cast _ _ _ a => a.depth + 1
  | .app a b | .add a b | .less a b | .pair a b => max a.depth b.depth + 1
  | .ite a b c => max a.depth (max b.depth c.depth) + 1
def E.nodes : E → Nat
  | .var _ | .num _ | .tru | .fls => 1
  | .lam _ _ a | .fst a | .snd a | .asc _ a | .cast _ _ _ a => 1 + a.nodes
  | .app a b | .add a b | .less a b | .pair a b => 1 + (a.nodes + b.nodes)
  | .ite a b c => 1 + (a.nodes + (b.nodes + c.nodes))
end Go.Proofs.Grad
/- Terms as shadows. -/
namespace Go.Proofs.Sh
open Go.RowKit Go.Proofs.Grad

mutual
def teC : Tm → List C
  | .mk x0 x1 x2 x3 x4 x5 x6 => [.sc (.int .i64 (x0)), .sc (.string (x1)), .sc (.int .i64 (x2)), .sc (.int .i64 (x3).kind), .sl (tyR (x3).kids), .sc (.int .i64 (x4).kind), .sl (tyR (x4).kids), .sc (.int .i64 (x5)), .sl (teR (x6))]
def teR : List Tm → List (List C)
  | [] => []
  | t :: l => teC t :: teR l
end
theorem teC_eq (t : Tm) : teC t = [.sc (.int .i64 (t.kind)), .sc (.string (t.name)), .sc (.int .i64 (t.num)), .sc (.int .i64 (t.type).kind), .sl (tyR (t.type).kids), .sc (.int .i64 (t.frm).kind), .sl (tyR (t.frm).kids), .sc (.int .i64 (t.label)), .sl (teR (t.kids))] := by cases t; rfl
@[go_sem] theorem teC_length (t : Tm) : (teC t).length = 9 := by rw [teC_eq]; rfl
@[go_sem] theorem teC_take (t : Tm) : (teC t).take 9 = teC t := by rw [teC_eq]; rfl
@[go_sem] theorem teC_drop (t : Tm) : (teC t).drop 0 = teC t := rfl
@[go_sem] theorem teC_dropn (t : Tm) : (teC t).drop 9 = [] := by rw [teC_eq]; rfl
@[go_sem] theorem teC_treeL (t : Tm) : treeL (teC t) = true := by rw [teC_eq]; rfl
@[go_sem] theorem teC_0 (t : Tm) : (teC t)[0]? = some (.sc (.int .i64 (t.kind))) := by rw [teC_eq]; rfl
@[go_sem] theorem teC_1 (t : Tm) : (teC t)[1]? = some (.sc (.string (t.name))) := by rw [teC_eq]; rfl
@[go_sem] theorem teC_2 (t : Tm) : (teC t)[2]? = some (.sc (.int .i64 (t.num))) := by rw [teC_eq]; rfl
@[go_sem] theorem teC_3 (t : Tm) : (teC t)[3]? = some (.sc (.int .i64 (t.type).kind)) := by rw [teC_eq]; rfl
@[go_sem] theorem teC_4 (t : Tm) : (teC t)[4]? = some (.sl (tyR (t.type).kids)) := by rw [teC_eq]; rfl
@[go_sem] theorem teC_dlen3 (t : Tm) : ((teC t).drop 3).length = 6 := by rw [teC_eq]; rfl
@[go_sem] theorem teC_part3 (t : Tm) : ((teC t).drop 3).take 2 = tyC t.type := by rw [teC_eq, tyC_eq]; rfl
@[go_sem] theorem teC_5 (t : Tm) : (teC t)[5]? = some (.sc (.int .i64 (t.frm).kind)) := by rw [teC_eq]; rfl
@[go_sem] theorem teC_6 (t : Tm) : (teC t)[6]? = some (.sl (tyR (t.frm).kids)) := by rw [teC_eq]; rfl
@[go_sem] theorem teC_dlen5 (t : Tm) : ((teC t).drop 5).length = 4 := by rw [teC_eq]; rfl
@[go_sem] theorem teC_part5 (t : Tm) : ((teC t).drop 5).take 2 = tyC t.frm := by rw [teC_eq, tyC_eq]; rfl
@[go_sem] theorem teC_7 (t : Tm) : (teC t)[7]? = some (.sc (.int .i64 (t.label))) := by rw [teC_eq]; rfl
@[go_sem] theorem teC_8 (t : Tm) : (teC t)[8]? = some (.sl (teR (t.kids))) := by rw [teC_eq]; rfl
@[go_sem] theorem tyC_app (t : Ty) (l : List C) : tyC t ++ l = .sc (.int .i64 t.kind) :: .sl (tyR t.kids) :: l := by rw [tyC_eq]; rfl
@[go_sem] theorem teC_splice0 (t : Tm) (x : C) : splice (teC t) 0 [x] = [x, .sc (.string (t.name)), .sc (.int .i64 (t.num)), .sc (.int .i64 (t.type).kind), .sl (tyR (t.type).kids), .sc (.int .i64 (t.frm).kind), .sl (tyR (t.frm).kids), .sc (.int .i64 (t.label)), .sl (teR (t.kids))] := by rw [teC_eq]; rfl
@[go_sem] theorem teC_splice1 (t : Tm) (x : C) : splice (teC t) 1 [x] = [.sc (.int .i64 (t.kind)), x, .sc (.int .i64 (t.num)), .sc (.int .i64 (t.type).kind), .sl (tyR (t.type).kids), .sc (.int .i64 (t.frm).kind), .sl (tyR (t.frm).kids), .sc (.int .i64 (t.label)), .sl (teR (t.kids))] := by rw [teC_eq]; rfl
@[go_sem] theorem teC_splice2 (t : Tm) (x : C) : splice (teC t) 2 [x] = [.sc (.int .i64 (t.kind)), .sc (.string (t.name)), x, .sc (.int .i64 (t.type).kind), .sl (tyR (t.type).kids), .sc (.int .i64 (t.frm).kind), .sl (tyR (t.frm).kids), .sc (.int .i64 (t.label)), .sl (teR (t.kids))] := by rw [teC_eq]; rfl
@[go_sem] theorem teC_splice3 (t : Tm) (x : C) : splice (teC t) 3 [x] = [.sc (.int .i64 (t.kind)), .sc (.string (t.name)), .sc (.int .i64 (t.num)), x, .sl (tyR (t.type).kids), .sc (.int .i64 (t.frm).kind), .sl (tyR (t.frm).kids), .sc (.int .i64 (t.label)), .sl (teR (t.kids))] := by rw [teC_eq]; rfl
@[go_sem] theorem teC_splice4 (t : Tm) (x : C) : splice (teC t) 4 [x] = [.sc (.int .i64 (t.kind)), .sc (.string (t.name)), .sc (.int .i64 (t.num)), .sc (.int .i64 (t.type).kind), x, .sc (.int .i64 (t.frm).kind), .sl (tyR (t.frm).kids), .sc (.int .i64 (t.label)), .sl (teR (t.kids))] := by rw [teC_eq]; rfl
@[go_sem] theorem teC_splice5 (t : Tm) (x : C) : splice (teC t) 5 [x] = [.sc (.int .i64 (t.kind)), .sc (.string (t.name)), .sc (.int .i64 (t.num)), .sc (.int .i64 (t.type).kind), .sl (tyR (t.type).kids), x, .sl (tyR (t.frm).kids), .sc (.int .i64 (t.label)), .sl (teR (t.kids))] := by rw [teC_eq]; rfl
@[go_sem] theorem teC_splice6 (t : Tm) (x : C) : splice (teC t) 6 [x] = [.sc (.int .i64 (t.kind)), .sc (.string (t.name)), .sc (.int .i64 (t.num)), .sc (.int .i64 (t.type).kind), .sl (tyR (t.type).kids), .sc (.int .i64 (t.frm).kind), x, .sc (.int .i64 (t.label)), .sl (teR (t.kids))] := by rw [teC_eq]; rfl
@[go_sem] theorem teC_splice7 (t : Tm) (x : C) : splice (teC t) 7 [x] = [.sc (.int .i64 (t.kind)), .sc (.string (t.name)), .sc (.int .i64 (t.num)), .sc (.int .i64 (t.type).kind), .sl (tyR (t.type).kids), .sc (.int .i64 (t.frm).kind), .sl (tyR (t.frm).kids), x, .sl (teR (t.kids))] := by rw [teC_eq]; rfl
@[go_sem] theorem teC_splice8 (t : Tm) (x : C) : splice (teC t) 8 [x] = [.sc (.int .i64 (t.kind)), .sc (.string (t.name)), .sc (.int .i64 (t.num)), .sc (.int .i64 (t.type).kind), .sl (tyR (t.type).kids), .sc (.int .i64 (t.frm).kind), .sl (tyR (t.frm).kids), .sc (.int .i64 (t.label)), x] := by rw [teC_eq]; rfl
@[go_sem] theorem teC_splice3ty (t : Tm) (x y : C) : splice (teC t) 3 [x, y] = [.sc (.int .i64 (t.kind)), .sc (.string (t.name)), .sc (.int .i64 (t.num)), x, y, .sc (.int .i64 (t.frm).kind), .sl (tyR (t.frm).kids), .sc (.int .i64 (t.label)), .sl (teR (t.kids))] := by rw [teC_eq]; rfl
@[go_sem] theorem teC_splice3tyC (t : Tm) (u : Ty) : splice (teC t) 3 (tyC u) = teC (.mk t.kind t.name t.num u t.frm t.label t.kids) := by rw [teC_eq, tyC_eq]; rfl
@[go_sem] theorem teC_splice5ty (t : Tm) (x y : C) : splice (teC t) 5 [x, y] = [.sc (.int .i64 (t.kind)), .sc (.string (t.name)), .sc (.int .i64 (t.num)), .sc (.int .i64 (t.type).kind), .sl (tyR (t.type).kids), x, y, .sc (.int .i64 (t.label)), .sl (teR (t.kids))] := by rw [teC_eq]; rfl
@[go_sem] theorem teC_splice5tyC (t : Tm) (u : Ty) : splice (teC t) 5 (tyC u) = teC (.mk t.kind t.name t.num t.type u t.label t.kids) := by rw [teC_eq, tyC_eq]; rfl
@[go_sem] theorem teR_length (l : List Tm) : (teR l).length = l.length := by
  induction l with
  | nil => rfl
  | cons t l ih => simp [teR, ih]
theorem teR_get (l : List Tm) (i : Nat) : (teR l)[i]? = (l[i]?).map teC := by
  induction l generalizing i with
  | nil => simp [teR]
  | cons t l ih => cases i <;> simp [teR, ih]
/-- the k-th one -/
def teKid (l : List Tm) (k : Nat) : Tm := l.getD k (.mk 0 ByteArray.empty 0 (.mk 0 []) (.mk 0 []) 0 [])
theorem teKid_eq {l : List Tm} {k : Nat} (h : k < l.length) : teKid l k = l[k] := by simp [teKid, h]
@[go_sem] theorem teR_at (l : List Tm) (i : Nat) : (teR l)[i]? = match decide ((i : Int) < (l.length : Int)) with | true => some (teC (teKid l i)) | false => none := by
  rw [teR_get]
  by_cases h : i < l.length
  · have h' : (i : Int) < (l.length : Int) := by omega
    simp [h, h', teKid]
  · have h' : ¬ (i : Int) < (l.length : Int) := by omega
    simp [h, h']
theorem tetake_kid {l : List Tm} {k : Nat} (h : k < l.length) : l.take (k + 1) = l.take k ++ [teKid l k] := by
  rw [teKid_eq h, List.take_succ_eq_append_getElem h]
theorem tedrop_kid {l : List Tm} {k : Nat} (h : k < l.length) : l.drop k = teKid l k :: l.drop (k + 1) := by
  rw [teKid_eq h, List.drop_eq_getElem_cons h]
@[go_sem] theorem teR_tree (l : List Tm) : treeRows (teR l) = true := by
  induction l with
  | nil => rfl
  | cons t l ih => simp only [teR, treeRows_cons, teC_treeL, Bool.true_and]; exact ih
@[go_sem] theorem teR_len (l : List Tm) : rowsLen 9 (teR l) = true := by
  induction l with
  | nil => rfl
  | cons t l ih => simp only [teR, rowsLen_cons, teC_length, beq_self_eq_true, Bool.true_and]; exact ih
attribute [go_sem] teR
@[go_sem] theorem tekind_mk (x0 : Int) (x1 : ByteArray) (x2 : Int) (x3 : Ty) (x4 : Ty) (x5 : Int) (x6 : List Tm) : (Tm.mk x0 x1 x2 x3 x4 x5 x6).kind = x0 := rfl
@[go_sem] theorem tename_mk (x0 : Int) (x1 : ByteArray) (x2 : Int) (x3 : Ty) (x4 : Ty) (x5 : Int) (x6 : List Tm) : (Tm.mk x0 x1 x2 x3 x4 x5 x6).name = x1 := rfl
@[go_sem] theorem tenum_mk (x0 : Int) (x1 : ByteArray) (x2 : Int) (x3 : Ty) (x4 : Ty) (x5 : Int) (x6 : List Tm) : (Tm.mk x0 x1 x2 x3 x4 x5 x6).num = x2 := rfl
@[go_sem] theorem tetype_mk (x0 : Int) (x1 : ByteArray) (x2 : Int) (x3 : Ty) (x4 : Ty) (x5 : Int) (x6 : List Tm) : (Tm.mk x0 x1 x2 x3 x4 x5 x6).type = x3 := rfl
@[go_sem] theorem tefrm_mk (x0 : Int) (x1 : ByteArray) (x2 : Int) (x3 : Ty) (x4 : Ty) (x5 : Int) (x6 : List Tm) : (Tm.mk x0 x1 x2 x3 x4 x5 x6).frm = x4 := rfl
@[go_sem] theorem telabel_mk (x0 : Int) (x1 : ByteArray) (x2 : Int) (x3 : Ty) (x4 : Ty) (x5 : Int) (x6 : List Tm) : (Tm.mk x0 x1 x2 x3 x4 x5 x6).label = x5 := rfl
@[go_sem] theorem tekids_mk (x0 : Int) (x1 : ByteArray) (x2 : Int) (x3 : Ty) (x4 : Ty) (x5 : Int) (x6 : List Tm) : (Tm.mk x0 x1 x2 x3 x4 x5 x6).kids = x6 := rfl
end Go.Proofs.Sh
/- Terms: equality and search of lists, on shadows. -/
namespace Go.Proofs.Sh
open Go.Proofs.Grad
end Go.Proofs.Sh
namespace Go.Proofs.Ytbiobfbonpiiiaa
open Go.RowKit Go.Proofs.Sh Go.Proofs.Grad
set_option maxRecDepth 100000
set_option maxHeartbeats 4000000
end Go.Proofs.Ytbiobfbonpiiiaa
