/- Texts of the proof, one behind another. -/
import Derived.IntWalk
import Derived.Laws.BitsAllLaws
import Derived.Test.YtbiobfbonpiiiaaKV8
import Derived.Test.YtbiobfbonpiiiaaKV9
import Derived.Test.YtbiobfbonpiiiaaKV10
import Derived.Test.YtbiobfbonpiiiaaKV13
import Derived.Test.YtbiobfbonpiiiaaKV14
set_option linter.unusedSimpArgs false
set_option linter.unusedVariables false
/- Labels of coercions, in the program and in the reference. On shadows. -/
namespace Go.Proofs.Grad
/-- the labels of a coercion as it comes -/
noncomputable def Co.labsV (c : Co) : List Int := match c.k? with | some k => setL k.labels | none => []
theorem K.lab_ne {k : K} {l : Int} (h : lab l = true) : (l == 0) = false := by simp [lab] at h; simp; omega
end Go.Proofs.Grad
namespace Go.Proofs.Ytbiobfbonpiiiaa
open Go.RowKit Go.Proofs.Sh Go.Proofs.Grad
set_option maxRecDepth 100000
set_option maxHeartbeats 8000000
/-- a list as a slice of its own -/
def OwnL (l : List Int) (r : AV) (H' : List Blk) : Prop := match l with | [] => r = .one (.sc (.slice none 0 0)) ∧ H' = [] | z :: m => r = .one (.row 1 0 (m.length + 1)) ∧ H' = [⟨1, 3, .mut, intR (z :: m)⟩]
theorem iLabs (k : K) : k.wf = true → k.size < 90000000 → AFn Try.prog 75 [.agg (coC k.co)] (.one (.sl (intR k.labels))) := by
  induction k with
  | id g =>
    intro _ _
    simp only [K.co]
    refine fn_in ?_; refine acl_in Try.func75 rfl isfn_75 (Nat.le_of_ble_eq_true rfl) (fun R hR => ?_); rw [Try.results75] at hR; refine wg_run ?_; (simp only [Try.f75, go_sem])
    repeat' (first | (first | (((first | apply sp1 | apply sp2 | apply sp3 | apply sp4 | apply sp5 | apply sp6 | apply sp7) <;> intro hb) <;> (simp only [go_sem, hb])) | ((first | apply wm_done | apply wt_done | apply wg_run | refine fk ?_ ?_) <;> (simp only [go_sem]))) | (first | (refine wl_next (wg_run ?_); (simp only [go_sem])) | refine wd_rounds 6 ?_) | fail)
    (refine hR _ (rat [] (hK := ⟨rfl, rfl⟩)))
  | fail l g =>
    intro hw hz
    simp only [K.wf, Bool.and_eq_true] at hw
    have h0 := K.lab_ne (k := .id 1) hw.1.1
    simp only [K.co]
    refine fn_in ?_; refine acl_in Try.func75 rfl isfn_75 (Nat.le_of_ble_eq_true rfl) (fun R hR => ?_); rw [Try.results75] at hR; refine wg_run ?_; (simp only [Try.f75, go_sem, h0, int_bne])
    repeat' (first | (first | (simp only [go_sem, h0, int_bne]) | (((first | apply sp1 | apply sp2 | apply sp3 | apply sp4 | apply sp5 | apply sp6 | apply sp7) <;> intro hb) <;> (simp only [go_sem, hb, h0, int_bne])) | ((first | apply wm_done | apply wt_done | apply wg_run | refine fk ?_ ?_) <;> (simp only [go_sem, h0, int_bne]))) | (first | (refine wl_next (wg_run ?_); (simp only [go_sem])) | refine wd_rounds 6 ?_) | fail)
    (refine hR _ (rat [] (hK := ⟨rfl, rfl⟩)))
  | fn a b iha ihb | pr a b iha ihb =>
    intro hw hz
    simp only [K.wf, Bool.and_eq_true] at hw
    simp only [K.size] at hz
    have hla := a.labels_len
    have hlb := b.labels_len
    have h1 := iha hw.1 (by omega)
    have h2 := ihb hw.2 (by omega)
    simp only [K.labels]
    simp only [K.co]
    cases ea : a.labels with
    | nil =>
      rw [ea] at h1
      cases eb : b.labels with
      | nil =>
        rw [eb] at h2
        refine fn_in ?_; refine acl_in Try.func75 rfl isfn_75 (Nat.le_of_ble_eq_true rfl) (fun R hR => ?_); rw [Try.results75] at hR; refine wg_run ?_; (simp only [Try.f75, go_sem])
        repeat' (first | (first | (((first | apply sp1 | apply sp2 | apply sp3 | apply sp4 | apply sp5 | apply sp6 | apply sp7) <;> intro hb) <;> (simp only [go_sem, hb])) | ((first | apply wm_done | apply wt_done | apply wg_run | refine fk ?_ ?_) <;> (simp only [go_sem]))) | (first | (refine wl_next (wg_run ?_); (simp only [go_sem])) | refine wd_rounds 6 ?_) | (first | refine cdq ?_ (hc := h1) | refine cmq ?_ (hc := h1) | refine ctq ?_ (hc := h1)); (simp only [go_sem]) | (first | refine cdq ?_ (hc := h2) | refine cmq ?_ (hc := h2) | refine ctq ?_ (hc := h2)); (simp only [go_sem]) | fail)
        (refine hR _ (rat [] (hK := ⟨rfl, rfl⟩)))
      | cons z m =>
        rw [eb] at h2
        rw [eb, List.length_cons] at hlb
        have hc1 : (m.length + 1) * 8 ≤ 140737488355328 := by omega
        refine fn_in ?_; refine acl_in Try.func75 rfl isfn_75 (Nat.le_of_ble_eq_true rfl) (fun R hR => ?_); rw [Try.results75] at hR; refine wg_run ?_; (simp only [Try.f75, go_sem])
        repeat' (first | (first | (simp only [go_sem, hc1]) | (((first | apply sp1 | apply sp2 | apply sp3 | apply sp4 | apply sp5 | apply sp6 | apply sp7) <;> intro hb) <;> (simp only [go_sem, hb, hc1])) | ((first | apply wm_done | apply wt_done | apply wg_run | refine fk ?_ ?_) <;> (simp only [go_sem, hc1]))) | (first | (refine wl_next (wg_run ?_); (simp only [go_sem])) | refine wd_rounds 6 ?_) | (first | refine cdq ?_ (hc := h1) | refine cmq ?_ (hc := h1) | refine ctq ?_ (hc := h1)); (simp only [go_sem]) | (first | refine cdq ?_ (hc := h2) | refine cmq ?_ (hc := h2) | refine ctq ?_ (hc := h2)); (simp only [go_sem]) | fail)
        (refine hR _ (rat [] (hK := ⟨rfl, rfl⟩)))
    | cons y n =>
      rw [ea] at h1
      rw [ea, List.length_cons] at hla
      have hc0 : (n.length + 1) * 8 ≤ 140737488355328 := by omega
      cases eb : b.labels with
      | nil =>
        rw [eb] at h2
        refine fn_in ?_; refine acl_in Try.func75 rfl isfn_75 (Nat.le_of_ble_eq_true rfl) (fun R hR => ?_); rw [Try.results75] at hR; refine wg_run ?_; (simp only [Try.f75, go_sem])
        repeat' (first | (first | (simp only [go_sem, hc0]) | (((first | apply sp1 | apply sp2 | apply sp3 | apply sp4 | apply sp5 | apply sp6 | apply sp7) <;> intro hb) <;> (simp only [go_sem, hb, hc0])) | ((first | apply wm_done | apply wt_done | apply wg_run | refine fk ?_ ?_) <;> (simp only [go_sem, hc0]))) | (first | (refine wl_next (wg_run ?_); (simp only [go_sem])) | refine wd_rounds 6 ?_) | (first | refine cdq ?_ (hc := h1) | refine cmq ?_ (hc := h1) | refine ctq ?_ (hc := h1)); (simp only [go_sem]) | (first | refine cdq ?_ (hc := h2) | refine cmq ?_ (hc := h2) | refine ctq ?_ (hc := h2)); (simp only [go_sem]) | fail)
        (refine hR _ (rat [] (hK := ⟨?_, rfl⟩)))
        rw [List.append_nil]; rfl
      | cons z m =>
        rw [eb] at h2
        rw [eb, List.length_cons] at hlb
        have hc1 : (n.length + 1 + (m.length + 1)) * 8 ≤ 140737488355328 := by omega
        have hq : decide (n.length + (m.length + 1) + 1 = n.length + 1 + (m.length + 1)) = true := by simp; omega
        refine fn_in ?_; refine acl_in Try.func75 rfl isfn_75 (Nat.le_of_ble_eq_true rfl) (fun R hR => ?_); rw [Try.results75] at hR; refine wg_run ?_; (simp only [Try.f75, go_sem])
        repeat' (first | (first | (simp only [go_sem, hc0, hc1]) | (((first | apply sp1 | apply sp2 | apply sp3 | apply sp4 | apply sp5 | apply sp6 | apply sp7) <;> intro hb) <;> (simp only [go_sem, hb, hc0, hc1])) | ((first | apply wm_done | apply wt_done | apply wg_run | refine fk ?_ ?_) <;> (simp only [go_sem, hc0, hc1]))) | (first | (refine wl_next (wg_run ?_); (simp only [go_sem])) | refine wd_rounds 6 ?_) | (first | refine cdq ?_ (hc := h1) | refine cmq ?_ (hc := h1) | refine ctq ?_ (hc := h1)); (simp only [go_sem]) | (first | refine cdq ?_ (hc := h2) | refine cmq ?_ (hc := h2) | refine ctq ?_ (hc := h2)); (simp only [go_sem]) | fail)
        (refine hR _ (ret_at [] (by (simp only [go_sem, hq]); first | done | rfl) (by (simp only [go_sem, hq]); first | done | rfl) ⟨?_, rfl⟩))
        simp only [intR_append, intR, List.cons_append]
  | inj c ih =>
    intro hw hz
    simp only [K.wf, Bool.and_eq_true] at hw
    simp only [K.size] at hz
    have h1 := ih hw.2 (by omega)
    have hla := c.labels_len
    simp only [K.labels]
    simp only [K.co]
    cases ea : c.labels with
    | nil =>
      rw [ea] at h1
      refine fn_in ?_; refine acl_in Try.func75 rfl isfn_75 (Nat.le_of_ble_eq_true rfl) (fun R hR => ?_); rw [Try.results75] at hR; refine wg_run ?_; (simp only [Try.f75, go_sem])
      repeat' (first | (first | (((first | apply sp1 | apply sp2 | apply sp3 | apply sp4 | apply sp5 | apply sp6 | apply sp7) <;> intro hb) <;> (simp only [go_sem, hb])) | ((first | apply wm_done | apply wt_done | apply wg_run | refine fk ?_ ?_) <;> (simp only [go_sem]))) | (first | (refine wl_next (wg_run ?_); (simp only [go_sem])) | refine wd_rounds 6 ?_) | (first | refine cdq ?_ (hc := h1) | refine cmq ?_ (hc := h1) | refine ctq ?_ (hc := h1)); (simp only [go_sem]) | fail)
      (refine hR _ (rat [] (hK := ⟨rfl, rfl⟩)))
    | cons y n =>
      rw [ea] at h1
      rw [ea, List.length_cons] at hla
      have hc0 : (n.length + 1) * 8 ≤ 140737488355328 := by omega
      refine fn_in ?_; refine acl_in Try.func75 rfl isfn_75 (Nat.le_of_ble_eq_true rfl) (fun R hR => ?_); rw [Try.results75] at hR; refine wg_run ?_; (simp only [Try.f75, go_sem])
      repeat' (first | (first | (simp only [go_sem, hc0]) | (((first | apply sp1 | apply sp2 | apply sp3 | apply sp4 | apply sp5 | apply sp6 | apply sp7) <;> intro hb) <;> (simp only [go_sem, hb, hc0])) | ((first | apply wm_done | apply wt_done | apply wg_run | refine fk ?_ ?_) <;> (simp only [go_sem, hc0]))) | (first | (refine wl_next (wg_run ?_); (simp only [go_sem])) | refine wd_rounds 6 ?_) | (first | refine cdq ?_ (hc := h1) | refine cmq ?_ (hc := h1) | refine ctq ?_ (hc := h1)); (simp only [go_sem]) | fail)
      (refine hR _ (rat [] (hK := ⟨rfl, rfl⟩)))
  | prj l c ih =>
    intro hw hz
    simp only [K.wf, Bool.and_eq_true] at hw
    have h0 := K.lab_ne (k := .id 1) hw.1.1.1
    simp only [K.size] at hz
    have h1 := ih hw.2 (by omega)
    have hla := c.labels_len
    simp only [K.labels]
    simp only [K.co]
    cases ea : c.labels with
    | nil =>
      rw [ea] at h1
      refine fn_in ?_; refine acl_in Try.func75 rfl isfn_75 (Nat.le_of_ble_eq_true rfl) (fun R hR => ?_); rw [Try.results75] at hR; refine wg_run ?_; (simp only [Try.f75, go_sem, h0, int_bne])
      repeat' (first | (first | (simp only [go_sem, h0, int_bne]) | (((first | apply sp1 | apply sp2 | apply sp3 | apply sp4 | apply sp5 | apply sp6 | apply sp7) <;> intro hb) <;> (simp only [go_sem, hb, h0, int_bne])) | ((first | apply wm_done | apply wt_done | apply wg_run | refine fk ?_ ?_) <;> (simp only [go_sem, h0, int_bne]))) | (first | (refine wl_next (wg_run ?_); (simp only [go_sem])) | refine wd_rounds 6 ?_) | (first | refine cdq ?_ (hc := h1) | refine cmq ?_ (hc := h1) | refine ctq ?_ (hc := h1)); (simp only [go_sem]) | fail)
      (refine hR _ (rat [] (hK := ⟨rfl, rfl⟩)))
    | cons y n =>
      rw [ea] at h1
      rw [ea, List.length_cons] at hla
      have hc0 : (1 + (n.length + 1)) * 8 ≤ 140737488355328 := by omega
      have hc1 : (n.length + 1) * 8 ≤ 140737488355328 := by omega
      refine fn_in ?_; refine acl_in Try.func75 rfl isfn_75 (Nat.le_of_ble_eq_true rfl) (fun R hR => ?_); rw [Try.results75] at hR; refine wg_run ?_; (simp only [Try.f75, go_sem, h0, int_bne])
      have hq : decide (n.length + 1 + 1 = 1 + (n.length + 1)) = true := by simp; omega
      repeat' (first | (first | (simp only [go_sem, h0, int_bne, hc0, hc1]) | (((first | apply sp1 | apply sp2 | apply sp3 | apply sp4 | apply sp5 | apply sp6 | apply sp7) <;> intro hb) <;> (simp only [go_sem, hb, h0, int_bne, hc0, hc1])) | ((first | apply wm_done | apply wt_done | apply wg_run | refine fk ?_ ?_) <;> (simp only [go_sem, h0, int_bne, hc0, hc1]))) | (first | (refine wl_next (wg_run ?_); (simp only [go_sem])) | refine wd_rounds 6 ?_) | (first | refine cdq ?_ (hc := h1) | refine cmq ?_ (hc := h1) | refine ctq ?_ (hc := h1)); (simp only [go_sem]) | fail)
      (refine hR _ (ret_at [] (by (simp only [go_sem, hq]); first | done | rfl) (by (simp only [go_sem, hq]); first | done | rfl) ⟨?_, rfl⟩))
      rfl
theorem iLabsO (k : K) (hw : k.wf = true) (hz : k.size < 90000000) : ACl Try.prog 75 [.agg (coC k.co)] [] (OwnL k.labels) := by
  cases k with
  | id g =>
    simp only [K.co, K.labels, OwnL]
    refine acl_in Try.func75 rfl isfn_75 (Nat.le_of_ble_eq_true rfl) (fun R hR => ?_); rw [Try.results75] at hR; refine wg_run ?_; (simp only [Try.f75, go_sem])
    repeat' (first | (first | (((first | apply sp1 | apply sp2 | apply sp3 | apply sp4 | apply sp5 | apply sp6 | apply sp7) <;> intro hb) <;> (simp only [go_sem, hb])) | ((first | apply wm_done | apply wt_done | apply wg_run | refine fk ?_ ?_) <;> (simp only [go_sem]))) | (first | (refine wl_next (wg_run ?_); (simp only [go_sem])) | refine wd_rounds 6 ?_) | fail)
    exact hR _ (rwn [] (hK := ⟨rfl, rfl⟩))
  | fail l g =>
    simp only [K.wf, Bool.and_eq_true] at hw
    have h0 := K.lab_ne (k := .id 1) hw.1.1
    simp only [K.co, K.labels, OwnL]
    refine acl_in Try.func75 rfl isfn_75 (Nat.le_of_ble_eq_true rfl) (fun R hR => ?_); rw [Try.results75] at hR; refine wg_run ?_; (simp only [Try.f75, go_sem, h0, int_bne])
    repeat' (first | (first | (simp only [go_sem, h0, int_bne]) | (((first | apply sp1 | apply sp2 | apply sp3 | apply sp4 | apply sp5 | apply sp6 | apply sp7) <;> intro hb) <;> (simp only [go_sem, hb, h0, int_bne])) | ((first | apply wm_done | apply wt_done | apply wg_run | refine fk ?_ ?_) <;> (simp only [go_sem, h0, int_bne]))) | (first | (refine wl_next (wg_run ?_); (simp only [go_sem])) | refine wd_rounds 6 ?_) | fail)
    exact hR _ (rwn [2] (hK := ⟨rfl, rfl⟩))
  | fn a b | pr a b =>
    simp only [K.wf, Bool.and_eq_true] at hw
    simp only [K.size] at hz
    have hla := a.labels_len
    have hlb := b.labels_len
    have h1 := iLabs a hw.1 (by omega)
    have h2 := iLabs b hw.2 (by omega)
    simp only [K.labels]
    simp only [K.co]
    cases ea : a.labels with
    | nil =>
      rw [ea] at h1
      cases eb : b.labels with
      | nil =>
        rw [eb] at h2
        refine acl_in Try.func75 rfl isfn_75 (Nat.le_of_ble_eq_true rfl) (fun R hR => ?_); rw [Try.results75] at hR; refine wg_run ?_; (simp only [Try.f75, go_sem])
        repeat' (first | (first | (((first | apply sp1 | apply sp2 | apply sp3 | apply sp4 | apply sp5 | apply sp6 | apply sp7) <;> intro hb) <;> (simp only [go_sem, hb])) | ((first | apply wm_done | apply wt_done | apply wg_run | refine fk ?_ ?_) <;> (simp only [go_sem]))) | (first | (refine wl_next (wg_run ?_); (simp only [go_sem])) | refine wd_rounds 6 ?_) | (first | refine cdq ?_ (hc := h1) | refine cmq ?_ (hc := h1) | refine ctq ?_ (hc := h1)); (simp only [go_sem]) | (first | refine cdq ?_ (hc := h2) | refine cmq ?_ (hc := h2) | refine ctq ?_ (hc := h2)); (simp only [go_sem]) | fail)
        exact hR _ (rwn [] (hK := ⟨rfl, rfl⟩))
      | cons z m =>
        rw [eb] at h2
        rw [eb, List.length_cons] at hlb
        have hc1 : (m.length + 1) * 8 ≤ 140737488355328 := by omega
        refine acl_in Try.func75 rfl isfn_75 (Nat.le_of_ble_eq_true rfl) (fun R hR => ?_); rw [Try.results75] at hR; refine wg_run ?_; (simp only [Try.f75, go_sem])
        repeat' (first | (first | (simp only [go_sem, hc1]) | (((first | apply sp1 | apply sp2 | apply sp3 | apply sp4 | apply sp5 | apply sp6 | apply sp7) <;> intro hb) <;> (simp only [go_sem, hb, hc1])) | ((first | apply wm_done | apply wt_done | apply wg_run | refine fk ?_ ?_) <;> (simp only [go_sem, hc1]))) | (first | (refine wl_next (wg_run ?_); (simp only [go_sem])) | refine wd_rounds 6 ?_) | (first | refine cdq ?_ (hc := h1) | refine cmq ?_ (hc := h1) | refine ctq ?_ (hc := h1)); (simp only [go_sem]) | (first | refine cdq ?_ (hc := h2) | refine cmq ?_ (hc := h2) | refine ctq ?_ (hc := h2)); (simp only [go_sem]) | fail)
        exact hR _ (rwn [3] (hK := ⟨rfl, rfl⟩))
    | cons y n =>
      rw [ea] at h1
      rw [ea, List.length_cons] at hla
      have hc0 : (n.length + 1) * 8 ≤ 140737488355328 := by omega
      cases eb : b.labels with
      | nil =>
        rw [eb] at h2
        rw [List.append_nil]
        refine acl_in Try.func75 rfl isfn_75 (Nat.le_of_ble_eq_true rfl) (fun R hR => ?_); rw [Try.results75] at hR; refine wg_run ?_; (simp only [Try.f75, go_sem])
        repeat' (first | (first | (simp only [go_sem, hc0]) | (((first | apply sp1 | apply sp2 | apply sp3 | apply sp4 | apply sp5 | apply sp6 | apply sp7) <;> intro hb) <;> (simp only [go_sem, hb, hc0])) | ((first | apply wm_done | apply wt_done | apply wg_run | refine fk ?_ ?_) <;> (simp only [go_sem, hc0]))) | (first | (refine wl_next (wg_run ?_); (simp only [go_sem])) | refine wd_rounds 6 ?_) | (first | refine cdq ?_ (hc := h1) | refine cmq ?_ (hc := h1) | refine ctq ?_ (hc := h1)); (simp only [go_sem]) | (first | refine cdq ?_ (hc := h2) | refine cmq ?_ (hc := h2) | refine ctq ?_ (hc := h2)); (simp only [go_sem]) | fail)
        exact hR _ (rwn [2] (hK := ⟨rfl, rfl⟩))
      | cons z m =>
        rw [eb] at h2
        rw [eb, List.length_cons] at hlb
        have hc1 : (n.length + 1 + (m.length + 1)) * 8 ≤ 140737488355328 := by omega
        have hq : n.length + (m.length + 1) + 1 = n.length + 1 + (m.length + 1) := by omega
        have hx : ([C.sc (Value.int IntKind.i64 y)] :: (intR n ++ [C.sc (Value.int IntKind.i64 z)] :: intR m)) = intR (y :: (n ++ z :: m)) := by simp only [intR_append, intR]
        rw [List.cons_append]
        refine acl_in Try.func75 rfl isfn_75 (Nat.le_of_ble_eq_true rfl) (fun R hR => ?_); rw [Try.results75] at hR; refine wg_run ?_; (simp only [Try.f75, go_sem])
        repeat' (first | (first | (simp only [go_sem, hc0, hc1]) | (((first | apply sp1 | apply sp2 | apply sp3 | apply sp4 | apply sp5 | apply sp6 | apply sp7) <;> intro hb) <;> (simp only [go_sem, hb, hc0, hc1])) | ((first | apply wm_done | apply wt_done | apply wg_run | refine fk ?_ ?_) <;> (simp only [go_sem, hc0, hc1]))) | (first | (refine wl_next (wg_run ?_); (simp only [go_sem])) | refine wd_rounds 6 ?_) | (first | refine cdq ?_ (hc := h1) | refine cmq ?_ (hc := h1) | refine ctq ?_ (hc := h1)); (simp only [go_sem]) | (first | refine cdq ?_ (hc := h2) | refine cmq ?_ (hc := h2) | refine ctq ?_ (hc := h2)); (simp only [go_sem]) | fail)
        refine hR _ (rwn [4] (hK := ⟨?_, ?_⟩))
        · simp only [List.length_append, List.length_cons]; rw [← hq, Nat.add_assoc]
        · rw [hx]
  | inj c =>
    simp only [K.wf, Bool.and_eq_true] at hw
    simp only [K.size] at hz
    have h1 := iLabs c hw.2 (by omega)
    have hla := c.labels_len
    simp only [K.labels]
    simp only [K.co]
    cases ea : c.labels with
    | nil =>
      rw [ea] at h1
      refine acl_in Try.func75 rfl isfn_75 (Nat.le_of_ble_eq_true rfl) (fun R hR => ?_); rw [Try.results75] at hR; refine wg_run ?_; (simp only [Try.f75, go_sem])
      repeat' (first | (first | (((first | apply sp1 | apply sp2 | apply sp3 | apply sp4 | apply sp5 | apply sp6 | apply sp7) <;> intro hb) <;> (simp only [go_sem, hb])) | ((first | apply wm_done | apply wt_done | apply wg_run | refine fk ?_ ?_) <;> (simp only [go_sem]))) | (first | (refine wl_next (wg_run ?_); (simp only [go_sem])) | refine wd_rounds 6 ?_) | (first | refine cdq ?_ (hc := h1) | refine cmq ?_ (hc := h1) | refine ctq ?_ (hc := h1)); (simp only [go_sem]) | fail)
      exact hR _ (rwn [] (hK := ⟨rfl, rfl⟩))
    | cons y n =>
      rw [ea] at h1
      rw [ea, List.length_cons] at hla
      have hc0 : (n.length + 1) * 8 ≤ 140737488355328 := by omega
      refine acl_in Try.func75 rfl isfn_75 (Nat.le_of_ble_eq_true rfl) (fun R hR => ?_); rw [Try.results75] at hR; refine wg_run ?_; (simp only [Try.f75, go_sem])
      repeat' (first | (first | (simp only [go_sem, hc0]) | (((first | apply sp1 | apply sp2 | apply sp3 | apply sp4 | apply sp5 | apply sp6 | apply sp7) <;> intro hb) <;> (simp only [go_sem, hb, hc0])) | ((first | apply wm_done | apply wt_done | apply wg_run | refine fk ?_ ?_) <;> (simp only [go_sem, hc0]))) | (first | (refine wl_next (wg_run ?_); (simp only [go_sem])) | refine wd_rounds 6 ?_) | (first | refine cdq ?_ (hc := h1) | refine cmq ?_ (hc := h1) | refine ctq ?_ (hc := h1)); (simp only [go_sem]) | fail)
      exact hR _ (rwn [2] (hK := ⟨rfl, rfl⟩))
  | prj l c =>
    simp only [K.wf, Bool.and_eq_true] at hw
    have h0 := K.lab_ne (k := .id 1) hw.1.1.1
    simp only [K.size] at hz
    have h1 := iLabs c hw.2 (by omega)
    have hla := c.labels_len
    simp only [K.labels]
    simp only [K.co]
    cases ea : c.labels with
    | nil =>
      rw [ea] at h1
      refine acl_in Try.func75 rfl isfn_75 (Nat.le_of_ble_eq_true rfl) (fun R hR => ?_); rw [Try.results75] at hR; refine wg_run ?_; (simp only [Try.f75, go_sem, h0, int_bne])
      repeat' (first | (first | (simp only [go_sem, h0, int_bne]) | (((first | apply sp1 | apply sp2 | apply sp3 | apply sp4 | apply sp5 | apply sp6 | apply sp7) <;> intro hb) <;> (simp only [go_sem, hb, h0, int_bne])) | ((first | apply wm_done | apply wt_done | apply wg_run | refine fk ?_ ?_) <;> (simp only [go_sem, h0, int_bne]))) | (first | (refine wl_next (wg_run ?_); (simp only [go_sem])) | refine wd_rounds 6 ?_) | (first | refine cdq ?_ (hc := h1) | refine cmq ?_ (hc := h1) | refine ctq ?_ (hc := h1)); (simp only [go_sem]) | fail)
      first
        | exact hR _ (rwn [1] (hK := ⟨rfl, rfl⟩))
        | exact hR _ (rwn [2] (hK := ⟨rfl, rfl⟩))
        | exact hR _ (rwn [3] (hK := ⟨rfl, rfl⟩))
    | cons y n =>
      rw [ea] at h1
      rw [ea, List.length_cons] at hla
      have hc0 : (1 + (n.length + 1)) * 8 ≤ 140737488355328 := by omega
      have hc1 : (n.length + 1) * 8 ≤ 140737488355328 := by omega
      have hq : 1 + (n.length + 1) = n.length + 1 + 1 := by omega
      refine acl_in Try.func75 rfl isfn_75 (Nat.le_of_ble_eq_true rfl) (fun R hR => ?_); rw [Try.results75] at hR; refine wg_run ?_; (simp only [Try.f75, go_sem, h0, int_bne])
      repeat' (first | (first | (simp only [go_sem, h0, int_bne, hc0, hc1]) | (((first | apply sp1 | apply sp2 | apply sp3 | apply sp4 | apply sp5 | apply sp6 | apply sp7) <;> intro hb) <;> (simp only [go_sem, hb, h0, int_bne, hc0, hc1])) | ((first | apply wm_done | apply wt_done | apply wg_run | refine fk ?_ ?_) <;> (simp only [go_sem, h0, int_bne, hc0, hc1]))) | (first | (refine wl_next (wg_run ?_); (simp only [go_sem])) | refine wd_rounds 6 ?_) | (first | refine cdq ?_ (hc := h1) | refine cmq ?_ (hc := h1) | refine ctq ?_ (hc := h1)); (simp only [go_sem]) | fail)
      refine hR _ (rwn [4] (hK := ⟨?_, ?_⟩))
      · simp only [List.length_cons]; rw [hq]
      · rfl
/-- the labels, in order, each once -/
theorem iCoLabs (c : Co) (h : c.size < 90000000) : AFn Try.prog 33 [.agg (coC c)] (.one (.sl (intR c.labsV))) := by
  have hv := coValid c
  unfold Co.labsV
  cases e : c.k? with
  | none =>
    rw [Co.k?_none e] at hv
    refine fn_in ?_; refine acl_in Try.func33 rfl isfn_33 (Nat.le_of_ble_eq_true rfl) (fun R hR => ?_); rw [Try.results33] at hR; refine wg_run ?_; (simp only [Try.f33, go_sem])
    repeat' (first | (first | (((first | apply sp1 | apply sp2 | apply sp3 | apply sp4 | apply sp5 | apply sp6 | apply sp7) <;> intro hb) <;> (simp only [go_sem, hb])) | ((first | apply wm_done | apply wt_done | apply wg_run | refine fk ?_ ?_) <;> (simp only [go_sem]))) | (first | refine cdq ?_ (hc := hv) | refine cmq ?_ (hc := hv) | refine ctq ?_ (hc := hv)); (simp only [go_sem]))
    (refine hR _ (rat [] (hK := ⟨rfl, rfl⟩)))
  | some k =>
    obtain ⟨rfl, hk⟩ := Co.k?_some e
    rw [K.ok_valid, hk] at hv
    simp only [K.ok, Bool.and_eq_true] at hk
    rw [K.co_size] at h
    have hl := iLabsO k hk.1 h
    have hll := k.labels_len
    simp only []
    cases el : k.labels with
    | nil =>
      rw [el] at hl
      have e0 : setL [] = [] := (setL_nil_iff []).2 rfl
      have s1 := sortNil
      have s2 := compNil
      rw [e0]
      refine fn_in ?_; refine acl_in Try.func33 rfl isfn_33 (Nat.le_of_ble_eq_true rfl) (fun R hR => ?_); rw [Try.results33] at hR; refine wg_run ?_; (simp only [Try.f33, go_sem])
      repeat' (first | (first | (((first | apply sp1 | apply sp2 | apply sp3 | apply sp4 | apply sp5 | apply sp6 | apply sp7) <;> intro hb) <;> (simp only [go_sem, hb])) | ((first | apply wm_done | apply wt_done | apply wg_run | refine fk ?_ ?_) <;> (simp only [go_sem]))) | (first | refine cdq ?_ (hc := hv) | refine cmq ?_ (hc := hv) | refine ctq ?_ (hc := hv)); (simp only [go_sem]) | ((first | refine kdq [] ?_ (hc := hl) | refine kmq [] ?_ (hc := hl) | refine ktq [] ?_ (hc := hl)); rintro _ _ ⟨rfl, rfl⟩ <;> (simp only [go_sem])) | (first | refine cdq ?_ (hc := s1) | refine cmq ?_ (hc := s1) | refine ctq ?_ (hc := s1)); (simp only [go_sem]) | (first | refine cdq ?_ (hc := s2) | refine cmq ?_ (hc := s2) | refine ctq ?_ (hc := s2)); (simp only [go_sem]) | fail)
      (refine hR _ (rat [] (hK := ⟨rfl, rfl⟩)))
    | cons z m =>
      rw [el] at hl hll
      simp only [List.length_cons] at hll
      have s1 := sortCall (z :: m) (by simp only [List.length_cons]; omega)
      have s2 := compCall (srt (z :: m)) (by rw [srt_length]; simp only [List.length_cons]; omega)
      rw [srt_length] at s2
      simp only [List.length_cons] at s1 s2
      simp only [show Lib.compact (srt (z :: m)) = setL (z :: m) from rfl] at s2
      refine fn_in ?_; refine acl_in Try.func33 rfl isfn_33 (Nat.le_of_ble_eq_true rfl) (fun R hR => ?_); rw [Try.results33] at hR; refine wg_run ?_; (simp only [Try.f33, go_sem])
      repeat' (first | (first | (((first | apply sp1 | apply sp2 | apply sp3 | apply sp4 | apply sp5 | apply sp6 | apply sp7) <;> intro hb) <;> (simp only [go_sem, hb])) | ((first | apply wm_done | apply wt_done | apply wg_run | refine fk ?_ ?_) <;> (simp only [go_sem]))) | (first | refine cdq ?_ (hc := hv) | refine cmq ?_ (hc := hv) | refine ctq ?_ (hc := hv)); (simp only [go_sem]) | ((first | refine kdq [] ?_ (hc := hl) | refine kmq [] ?_ (hc := hl) | refine ktq [] ?_ (hc := hl)); rintro _ _ ⟨rfl, rfl⟩ <;> (simp only [go_sem])) | ((first | refine kdq [0] ?_ (hc := s1) | refine kmq [0] ?_ (hc := s1) | refine ktq [0] ?_ (hc := s1)); rintro _ _ ⟨rfl, rfl⟩ <;> (simp only [go_sem])) | ((first | refine kdq [1] ?_ (hc := s1) | refine kmq [1] ?_ (hc := s1) | refine ktq [1] ?_ (hc := s1)); rintro _ _ ⟨rfl, rfl⟩ <;> (simp only [go_sem])) | ((first | refine kdq [0] ?_ (hc := s2) | refine kmq [0] ?_ (hc := s2) | refine ktq [0] ?_ (hc := s2)); rintro _ _ ⟨rfl, rfl⟩ <;> (simp only [go_sem])) | ((first | refine kdq [1] ?_ (hc := s2) | refine kmq [1] ?_ (hc := s2) | refine ktq [1] ?_ (hc := s2)); rintro _ _ ⟨rfl, rfl⟩ <;> (simp only [go_sem])) | fail)
      (refine hR _ (rat [] (hK := ⟨rfl, rfl⟩)))
end Go.Proofs.Ytbiobfbonpiiiaa
/- Types: the relations of subtyping, on shadows. -/
namespace Go.Proofs.Sh
open Go.Proofs.Grad
@[go_sem] theorem ty_any_kind : T.any.ty.kind = 1 := rfl
@[go_sem] theorem ty_int_kind : T.int.ty.kind = 2 := rfl
@[go_sem] theorem ty_bool_kind : T.bool.ty.kind = 3 := rfl
@[go_sem] theorem ty_fn_kind (a b : T) : (T.fn a b).ty.kind = 4 := rfl
@[go_sem] theorem ty_pr_kind (a b : T) : (T.pr a b).ty.kind = 5 := rfl
@[go_sem] theorem ty_any_kids : T.any.ty.kids = [] := rfl
@[go_sem] theorem ty_int_kids : T.int.ty.kids = [] := rfl
@[go_sem] theorem ty_bool_kids : T.bool.ty.kids = [] := rfl
@[go_sem] theorem ty_fn_kids (a b : T) : (T.fn a b).ty.kids = [a.ty, b.ty] := rfl
@[go_sem] theorem ty_pr_kids (a b : T) : (T.pr a b).ty.kids = [a.ty, b.ty] := rfl
attribute [go_sem] T.ground
end Go.Proofs.Sh
namespace Go.Proofs.Ytbiobfbonpiiiaa
open Go.RowKit Go.Proofs.Sh Go.Proofs.Grad
set_option maxRecDepth 100000
set_option maxHeartbeats 4000000
theorem l1Any : AFn Try.prog 84 [] (.agg (tyC T.any.ty)) := by
  refine fn_in ?_; refine acl_in Try.func84 rfl isfn_84 (Nat.le_of_ble_eq_true rfl) (fun R hR => ?_); rw [Try.results84] at hR; refine wg_run ?_; (simp only [Try.f84, go_sem])
  (refine hR _ (rat [] (hK := ⟨rfl, rfl⟩)))
theorem l1Ground (a : T) : AFn Try.prog 91 [.agg (tyC a.ty)] (.agg (tyC a.ground.ty)) := by
  cases a
  all_goals
    refine fn_in ?_; refine acl_in Try.func91 rfl isfn_91 (Nat.le_of_ble_eq_true rfl) (fun R hR => ?_); rw [Try.results91] at hR; refine wg_run ?_; (simp only [Try.f91, go_sem])
    repeat' (first | (first | (((first | apply sp1 | apply sp2 | apply sp3 | apply sp4 | apply sp5 | apply sp6 | apply sp7) <;> intro hb) <;> (simp only [go_sem, hb])) | ((first | apply wm_done | apply wt_done | apply wg_run | refine fk ?_ ?_) <;> (simp only [go_sem]))) | (first | refine cdq ?_ (hc := l1Any) | refine cmq ?_ (hc := l1Any) | refine ctq ?_ (hc := l1Any)); (simp only [go_sem]) | (first | (refine wl_next (wg_run ?_); (simp only [go_sem])) | refine wd_rounds 6 ?_) | ((first | refine mxq6 [] ?_ | refine mxq5 [] ?_ | refine mxq4 [] ?_ | refine mxq3 [] ?_ | refine mxq2 [] ?_ | refine mxq1 [] ?_ | refine mxq0 [] ?_ | fail); (simp only [go_sem])))
    all_goals (refine hR _ (rat [] (hK := ⟨?_, rfl⟩)))
    all_goals rfl
theorem base (k : Int) : AFn Try.prog 111 [.one (.sc (.int .i64 k))] (.agg (tyC (.mk k []))) := by
  refine fn_in ?_; refine acl_in Try.func111 rfl isfn_111 (Nat.le_of_ble_eq_true rfl) (fun R hR => ?_); rw [Try.results111] at hR; refine wg_run ?_; (simp only [Try.f111, go_sem])
  (refine hR _ (rat [] (hK := ⟨rfl, rfl⟩)))
theorem both (k : Int) (a b : Ty) : AFn Try.prog 110 [.one (.sc (.int .i64 k)), .agg (tyC a), .agg (tyC b)] (.agg (tyC (.mk k [a, b]))) := by
  refine fn_in ?_; refine acl_in Try.func110 rfl isfn_110 (Nat.le_of_ble_eq_true rfl) (fun R hR => ?_); rw [Try.results110] at hR; refine wg_run ?_; (simp only [Try.f110, go_sem])
  (refine hR _ (rat [] (hK := ⟨rfl, rfl⟩)))
theorem iGround (a : T) : AFn Try.prog 87 [.one (.sc (.int .i64 a.kind))] (.agg (tyC a.ground.ty)) := by
  rcases a with _ | _ | _ | ⟨a1, a2⟩ | ⟨a1, a2⟩
  all_goals
    simp only [T.kind]
    refine fn_in ?_; refine acl_in Try.func87 rfl isfn_87 (Nat.le_of_ble_eq_true rfl) (fun R hR => ?_); rw [Try.results87] at hR; refine wg_run ?_; (simp only [Try.f87, go_sem])
    repeat' (first | (first | (((first | apply sp1 | apply sp2 | apply sp3 | apply sp4 | apply sp5 | apply sp6 | apply sp7) <;> intro hb) <;> (simp only [go_sem, hb])) | ((first | apply wm_done | apply wt_done | apply wg_run | refine fk ?_ ?_) <;> (simp only [go_sem]))) | (first | refine cdq ?_ (hc := base _) | refine cmq ?_ (hc := base _) | refine ctq ?_ (hc := base _)); (simp only [go_sem]) | (first | refine cdq ?_ (hc := both 4 T.any.ty T.any.ty) | refine cmq ?_ (hc := both 4 T.any.ty T.any.ty) | refine ctq ?_ (hc := both 4 T.any.ty T.any.ty)); (simp only [go_sem]) | (first | refine cdq ?_ (hc := both 5 T.any.ty T.any.ty) | refine cmq ?_ (hc := both 5 T.any.ty T.any.ty) | refine ctq ?_ (hc := both 5 T.any.ty T.any.ty)); (simp only [go_sem]) | ((first | refine mxq6 [] ?_ | refine mxq5 [] ?_ | refine mxq4 [] ?_ | refine mxq3 [] ?_ | refine mxq2 [] ?_ | refine mxq1 [] ?_ | refine mxq0 [] ?_ | fail); (simp only [go_sem])))
  all_goals (refine hR _ (rat [] (hK := ⟨rfl, rfl⟩)))
end Go.Proofs.Ytbiobfbonpiiiaa
/- Casts as coercions, in the program and in the reference. On shadows. -/
namespace Go.Proofs.Grad
theorem lab_wrap {l : Int} (h : lab l = true) : -99 ≤ l ∧ l ≤ 99 := by simp [lab] at h; omega
end Go.Proofs.Grad
namespace Go.Proofs.Ytbiobfbonpiiiaa
open Go.RowKit Go.Proofs.Sh Go.Proofs.Grad
set_option maxRecDepth 100000
set_option maxHeartbeats 8000000
theorem iCoerce (n : Nat) : ∀ (a b : T) (l : Int), castM a b < n → a.cons b = true → -99 ≤ l ∧ l ≤ 99 → AFn Try.prog 51 [.agg (tyC a.ty), .agg (tyC b.ty), .one (.sc (.int .i64 l))] (.agg (coC (T.cast a b l).co)) := by
  induction n with
  | zero => intro a b l h; omega
  | succ n ih =>
    intro a b l h hc hl
    have hw : IntKind.i64.wrap (0 - l) = -l := by rw [IntWalk.i64_in _ (by omega)]; omega
    rcases a with _ | _ | _ | ⟨a1, a2⟩ | ⟨a1, a2⟩ <;> rcases b with _ | _ | _ | ⟨b1, b2⟩ | ⟨b1, b2⟩
    all_goals simp only [T.cons, Bool.false_eq_true, Bool.and_eq_true] at hc
    all_goals
      ((try have p1 := T.size_pos a1); (try have p2 := T.size_pos a2); (try have p3 := T.size_pos b1); (try have p4 := T.size_pos b2))
      simp only [castM, T.size] at h
      refine fn_in ?_; refine acl_in Try.func51 rfl isfn_51 (Nat.le_of_ble_eq_true rfl) (fun R hR => ?_); rw [Try.results51] at hR; refine wg_run ?_; (simp only [Try.f51, go_sem])
      repeat' (first | (first | (simp only [go_sem, hw]) | (((first | apply sp1 | apply sp2 | apply sp3 | apply sp4 | apply sp5 | apply sp6 | apply sp7) <;> intro hb) <;> (simp only [go_sem, hb, hw])) | ((first | apply wm_done | apply wt_done | apply wg_run | refine fk ?_ ?_) <;> (simp only [go_sem, hw]))) | (first | fail) | ((first | refine mxq6 [] ?_ | refine mxq5 [] ?_ | refine mxq4 [] ?_ | refine mxq3 [] ?_ | refine mxq2 [] ?_ | refine mxq1 [] ?_ | refine mxq0 [] ?_ | fail); (simp only [go_sem])) | (first | refine cdq ?_ (hc := iGround T.int) | refine cmq ?_ (hc := iGround T.int) | refine ctq ?_ (hc := iGround T.int)); (simp only [go_sem]) | (first | refine cdq ?_ (hc := iGround T.bool) | refine cmq ?_ (hc := iGround T.bool) | refine ctq ?_ (hc := iGround T.bool)); (simp only [go_sem]) | (first | refine cdq ?_ (hc := iGround (T.fn T.any T.any)) | refine cmq ?_ (hc := iGround (T.fn T.any T.any)) | refine ctq ?_ (hc := iGround (T.fn T.any T.any))); (simp only [go_sem]) | (first | refine cdq ?_ (hc := iGround (T.pr T.any T.any)) | refine cmq ?_ (hc := iGround (T.pr T.any T.any)) | refine ctq ?_ (hc := iGround (T.pr T.any T.any))); (simp only [go_sem]) | (first | refine cdq ?_ (hc := ih _ _ _ (by simp only [castM, T.size]; (repeat' split) <;> (try simp only [T.size]) <;> omega) (by first | rfl | exact hc.1 | exact hc.2 | (rw [T.cons_symm]; exact hc.1) | simp [T.cons, T.cons_any]) (by omega)) | refine cmq ?_ (hc := ih _ _ _ (by simp only [castM, T.size]; (repeat' split) <;> (try simp only [T.size]) <;> omega) (by first | rfl | exact hc.1 | exact hc.2 | (rw [T.cons_symm]; exact hc.1) | simp [T.cons, T.cons_any]) (by omega)) | refine ctq ?_ (hc := ih _ _ _ (by simp only [castM, T.size]; (repeat' split) <;> (try simp only [T.size]) <;> omega) (by first | rfl | exact hc.1 | exact hc.2 | (rw [T.cons_symm]; exact hc.1) | simp [T.cons, T.cons_any]) (by omega))); (simp only [go_sem]))
    all_goals (refine hR _ (rat [] (hK := ⟨?_, rfl⟩)))
    all_goals simp only [T.cast, K.co]
    all_goals rfl
theorem sCast (n : Nat) : ∀ (a b : T) (l : Int), castM a b < n → a.cons b = true → -99 ≤ l ∧ l ≤ 99 → AFn Try.prog 54 [.agg (tyC a.ty), .agg (tyC b.ty), .one (.sc (.int .i64 l))] (.agg (coC (T.cast a b l).co)) := by
  induction n with
  | zero => intro a b l h; omega
  | succ n ih =>
    intro a b l h hc hl
    have hw : IntKind.i64.wrap (0 - l) = -l := by rw [IntWalk.i64_in _ (by omega)]; omega
    rcases a with _ | _ | _ | ⟨a1, a2⟩ | ⟨a1, a2⟩ <;> rcases b with _ | _ | _ | ⟨b1, b2⟩ | ⟨b1, b2⟩
    all_goals simp only [T.cons, Bool.false_eq_true, Bool.and_eq_true] at hc
    all_goals
      ((try have p1 := T.size_pos a1); (try have p2 := T.size_pos a2); (try have p3 := T.size_pos b1); (try have p4 := T.size_pos b2))
      simp only [castM, T.size] at h
      refine fn_in ?_; refine acl_in Try.func54 rfl isfn_54 (Nat.le_of_ble_eq_true rfl) (fun R hR => ?_); rw [Try.results54] at hR; refine wg_run ?_; (simp only [Try.f54, go_sem])
      repeat' (first | (first | (simp only [go_sem, hw]) | (((first | apply sp1 | apply sp2 | apply sp3 | apply sp4 | apply sp5 | apply sp6 | apply sp7) <;> intro hb) <;> (simp only [go_sem, hb, hw])) | ((first | apply wm_done | apply wt_done | apply wg_run | refine fk ?_ ?_) <;> (simp only [go_sem, hw]))) | (first | fail) | ((first | refine mxq6 [] ?_ | refine mxq5 [] ?_ | refine mxq4 [] ?_ | refine mxq3 [] ?_ | refine mxq2 [] ?_ | refine mxq1 [] ?_ | refine mxq0 [] ?_ | fail); (simp only [go_sem])) | (first | refine cdq ?_ (hc := l1Ground _) | refine cmq ?_ (hc := l1Ground _) | refine ctq ?_ (hc := l1Ground _)); (simp only [go_sem]) | (first | refine cdq ?_ (hc := l6Id _) | refine cmq ?_ (hc := l6Id _) | refine ctq ?_ (hc := l6Id _)); (simp only [go_sem]) | (first | refine cdq ?_ (hc := ih _ _ _ (by simp only [castM, T.size]; (repeat' split) <;> (try simp only [T.size]) <;> omega) (by first | rfl | exact hc.1 | exact hc.2 | (rw [T.cons_symm]; exact hc.1) | simp [T.cons, T.cons_any]) (by omega)) | refine cmq ?_ (hc := ih _ _ _ (by simp only [castM, T.size]; (repeat' split) <;> (try simp only [T.size]) <;> omega) (by first | rfl | exact hc.1 | exact hc.2 | (rw [T.cons_symm]; exact hc.1) | simp [T.cons, T.cons_any]) (by omega)) | refine ctq ?_ (hc := ih _ _ _ (by simp only [castM, T.size]; (repeat' split) <;> (try simp only [T.size]) <;> omega) (by first | rfl | exact hc.1 | exact hc.2 | (rw [T.cons_symm]; exact hc.1) | simp [T.cons, T.cons_any]) (by omega))); (simp only [go_sem]))
    all_goals (refine hR _ (rat [] (hK := ⟨?_, rfl⟩)))
    all_goals simp only [T.cast, K.co]
    all_goals rfl
end Go.Proofs.Ytbiobfbonpiiiaa
/- The reference's reader, on shadows. -/
namespace Go.Proofs.Sh
open Go.RowKit
def byC (x : Int) : List C := [.sc (.int .u8 x)]
def byR (l : List Int) : List (List C) := l.map byC
def byte (l : List Int) (k : Nat) : Int := l.getD k 0
@[go_sem] theorem byC_length (x : Int) : (byC x).length = 1 := rfl
@[go_sem] theorem byC_0 (x : Int) : (byC x)[0]? = some (.sc (.int .u8 x)) := rfl
@[go_sem] theorem byR_length (l : List Int) : (byR l).length = l.length := by simp [byR]
@[go_sem] theorem byR_at (l : List Int) (i : Nat) : (byR l)[i]? = match decide ((i : Int) < (l.length : Int)) with | true => some (byC (byte l i)) | false => none := by
  by_cases h : i < l.length
  · have h' : (i : Int) < (l.length : Int) := by omega
    simp [byR, byte, h, h']
  · have h' : ¬ (i : Int) < (l.length : Int) := by omega
    simp [byR, h, h']
@[go_sem] theorem byR_tree (l : List Int) : treeRows (byR l) = true := by
  simp [byR, treeRows, treeL, byC, C.tree]
@[go_sem] theorem byR_len (l : List Int) : rowsLen 1 (byR l) = true := by
  simp [byR, rowsLen, byC]
theorem byR_take (l : List Int) (n : Nat) : (byR l).take n = byR (l.take n) := by simp [byR, List.map_take]
/-- bytes -/
structure Bs (l : List Int) : Prop where
  len : l.length ≤ 2000
  all : ∀ k, 0 ≤ byte l k ∧ byte l k < 256
theorem i64_xor' (a b : Nat) (ha : a < 9223372036854775808) (hb : b < 9223372036854775808) : IntKind.i64.wrap ((BitVec.ofInt 64 (a : Int) ^^^ BitVec.ofInt 64 (b : Int)).toNat : Int) = ((a ^^^ b : Nat) : Int) := by
  have hx : a ^^^ b < 2 ^ 63 := Nat.xor_lt_two_pow (by omega) (by omega)
  rw [BitVec.toNat_xor, ofInt_u64 a (by omega), ofInt_u64 b (by omega), IntKind.wrap_i64]
  omega
end Go.Proofs.Sh
namespace Go.Proofs.Ytbiobfbonpiiiaa
open Go.RowKit Go.Proofs.Sh
set_option maxRecDepth 100000
set_option maxHeartbeats 4000000
theorem pick (bs : List Int) (hB : Bs bs) (p : Nat) (hp : p < 1099511627776) (n : Int) (hn1 : -1099511627776 ≤ n) (hn2 : n ≤ 1099511627776) :
    ACl Try.prog 46 [.one (.ptr 2 0 0 0), .one (.sc (.int .i64 n))] [(⟨2, 88, .mut, [[.sl (byR bs), .sc (.int .i64 ((p : Nat) : Int))]]⟩ : Blk)] (fun r H' => ∃ z : Int, r = .one (.sc (.int .i64 z)) ∧ 0 ≤ z ∧ (z < n ∨ z = 0) ∧ H' = [(⟨2, 88, .mut, [[.sl (byR bs), .sc (.int .i64 ((p + 1 : Nat) : Int))]]⟩ : Blk)]) := by
  have wq : IntKind.i64.wrap ((p : Int) + 1) = ((p + 1 : Nat) : Int) := by rw [IntWalk.i64_in _ (by omega)]; omega
  have wr : IntKind.i64.wrap (((p + 1 : Nat) : Int) - 1) = (p : Int) := by rw [IntWalk.i64_in _ (by omega)]; omega
  by_cases hz : n < 1
  · have hd : decide (n < 1) = true := by simp [hz]
    refine acl_in Try.func46 rfl isfn_46 (Nat.le_of_ble_eq_true rfl) (fun R hR => ?_); rw [Try.results46] at hR; refine wg_run ?_; (simp only [Try.f46, go_sem, hd, wq])
    exact hR _ (rat [] (hK := ⟨0, rfl, Int.le_refl _, .inr rfl, rfl⟩))
  · have hd : decide (n < 1) = false := by simp; omega
    have hl := hB.len
    by_cases hm : bs.length = 0
    · have hm1 : (((bs.length : Nat) : Int) == 0) = true := by simp [hm]
      refine acl_in Try.func46 rfl isfn_46 (Nat.le_of_ble_eq_true rfl) (fun R hR => ?_); rw [Try.results46] at hR; refine wg_run ?_; (simp only [Try.f46, go_sem, hd, wq, hm1])
      exact hR _ (rat [] (hK := ⟨0, rfl, Int.le_refl _, .inr rfl, rfl⟩))
    · have hm1 : (((bs.length : Nat) : Int) == 0) = false := by rw [beq_eq_false_iff_ne]; omega
      have hn0 : decide (n = 0) = false := by simp; omega
      have hn00 : (n == 0) = false := by simp; omega
      by_cases hpl : p < bs.length
      · have hpp : decide ((p : Int) < (bs.length : Int)) = true := by simp; omega
        have hb := hB.all p
        have wx : IntKind.i64.wrap (byte bs p) = byte bs p := IntWalk.i64_in _ (by omega)
        have hrem : 0 ≤ (byte bs p).tmod n ∧ (byte bs p).tmod n < n := ⟨Int.tmod_nonneg _ hb.1, Int.tmod_lt_of_pos _ (by omega)⟩
        refine acl_in Try.func46 rfl isfn_46 (Nat.le_of_ble_eq_true rfl) (fun R hR => ?_); rw [Try.results46] at hR; refine wg_run ?_; (simp only [Try.f46, go_sem, hd, wq, hm1, wr, hpp, wx, hn0])
        exact hR _ (rat [] (hK := ⟨_, rfl, hrem.1, .inl hrem.2, rfl⟩))
      · have hpp : decide ((p : Int) < (bs.length : Int)) = false := by simp; omega
        have hm0 : decide (((bs.length : Nat) : Int) = 0) = false := by rw [decide_eq_false_iff_not]; omega
        have hx := hB.all (p % bs.length)
        have hy := hB.all ((p * 7 + 3) % bs.length)
        have t1 : (p : Int).tmod (bs.length : Int) = ((p % bs.length : Nat) : Int) := by rw [Int.tmod_eq_emod_of_nonneg (by omega)]; simp
        have t2 : ((p : Int) * 7 + 3).tmod (bs.length : Int) = (((p * 7 + 3) % bs.length : Nat) : Int) := by rw [Int.tmod_eq_emod_of_nonneg (by omega)]; simp
        have t3 : (p : Int).tdiv (bs.length : Int) = ((p / bs.length : Nat) : Int) := by rw [Int.tdiv_eq_ediv_of_nonneg (by omega)]; simp
        have g1 : decide (((p % bs.length : Nat) : Int) < (bs.length : Int)) = true := by have := Nat.mod_lt p (show 0 < bs.length by omega); simp only [decide_eq_true_eq]; omega
        have g2 : decide ((((p * 7 + 3) % bs.length : Nat) : Int) < (bs.length : Int)) = true := by have := Nat.mod_lt (p * 7 + 3) (show 0 < bs.length by omega); simp only [decide_eq_true_eq]; omega
        have hdv : p / bs.length ≤ p := Nat.div_le_self _ _
        generalize hxe : byte bs (p % bs.length) = x at *
        generalize hye : byte bs ((p * 7 + 3) % bs.length) = y at *
        generalize hdd : p / bs.length = dd at *
        have w1 : IntKind.i64.wrap ((p : Int) * 7) = (p : Int) * 7 := IntWalk.i64_in _ (by omega)
        have w2 : IntKind.i64.wrap ((p : Int) * 7 + 3) = (p : Int) * 7 + 3 := IntWalk.i64_in _ (by omega)
        have w3 : IntKind.i64.wrap (x * 131) = x * 131 := IntWalk.i64_in _ (by omega)
        have w4 : IntKind.i64.wrap (y * 1117) = y * 1117 := IntWalk.i64_in _ (by omega)
        have w5 : IntKind.i64.wrap (x * 131 + y * 1117) = x * 131 + y * 1117 := IntWalk.i64_in _ (by omega)
        have w6 : IntKind.i64.wrap ((p : Int) * 29) = (p : Int) * 29 := IntWalk.i64_in _ (by omega)
        have w7 : IntKind.i64.wrap (x * 131 + y * 1117 + (p : Int) * 29) = x * 131 + y * 1117 + (p : Int) * 29 := IntWalk.i64_in _ (by omega)
        have w8 : IntKind.i64.wrap ((dd : Int) * 53) = (dd : Int) * 53 := IntWalk.i64_in _ (by omega)
        have w9 : IntKind.i64.wrap (x * 131 + y * 1117 + (p : Int) * 29 + (dd : Int) * 53) = x * 131 + y * 1117 + (p : Int) * 29 + (dd : Int) * 53 := IntWalk.i64_in _ (by omega)
        have wx : IntKind.i64.wrap x = x := IntWalk.i64_in _ (by omega)
        have wy : IntKind.i64.wrap y = y := IntWalk.i64_in _ (by omega)
        have wd : IntKind.i64.wrap (dd : Int) = (dd : Int) := IntWalk.i64_in _ (by omega)
        obtain ⟨s, hs, hs2⟩ : ∃ s : Nat, x * 131 + y * 1117 + (p : Int) * 29 + (dd : Int) * 53 = (s : Int) ∧ s < 4611686018427387904 := ⟨(x * 131 + y * 1117 + (p : Int) * 29 + (dd : Int) * 53).toNat, by omega, by omega⟩
        have t4 : (s : Int).tdiv 64 = ((s / 64 : Nat) : Int) := by rw [Int.tdiv_eq_ediv_of_nonneg (by omega)]; simp
        have w10 : IntKind.i64.wrap ((s / 64 : Nat) : Int) = ((s / 64 : Nat) : Int) := IntWalk.i64_in _ (by omega)
        have w11 : IntKind.i64.wrap (s : Int) = (s : Int) := IntWalk.i64_in _ (by omega)
        have hxo : IntKind.i64.wrap ((BitVec.ofInt 64 (s : Int) ^^^ BitVec.ofInt 64 ((s / 64 : Nat) : Int)).toNat : Int) = ((s ^^^ (s / 64) : Nat) : Int) := i64_xor' s (s / 64) (by omega) (by omega)
        generalize hze : s ^^^ (s / 64) = z at *
        have hrem : 0 ≤ (z : Int).tmod n ∧ (z : Int).tmod n < n := ⟨Int.tmod_nonneg _ (by omega), Int.tmod_lt_of_pos _ (by omega)⟩
        refine acl_in Try.func46 rfl isfn_46 (Nat.le_of_ble_eq_true rfl) (fun R hR => ?_); rw [Try.results46] at hR; refine wg_run ?_; (simp only [Try.f46, go_sem, hd, wq, hm1, wr, hpp])
        refine wd_mix 0 [] follows (by kernel_rfl) (by (simp only [go_sem]); first | done | rfl) ?_
        (simp only [go_sem, hm0, hxe, hye, t1, t2, t3, g1, g2, w1, w2, w3, w4, w5, w6, w7, w8, w9, wx, wy, wd, hs])
        refine wm_done ?_
        (simp only [go_sem, hn0, t4, w10, w11, hxo])
        refine hR _ (rat [] (hK := ⟨_, rfl, ?_, .inl ?_, rfl⟩))
        · have h := hrem.1; rw [← hxo] at h; exact h
        · have h := hrem.2; rw [← hxo] at h; exact h
/-- whole numbers as rows of a slice -/
theorem num (bs : List Int) (hB : Bs bs) (p : Nat) (hp : p < 1099511627776) (l : List Int) (h1 : 0 < l.length) (h2 : l.length < 1000) :
    ACl Try.prog 82 [.one (.ptr 2 0 0 0), .one (.sl (l.map fun x => [.sc (.int .i64 x)]))] [(⟨2, 88, .mut, [[.sl (byR bs), .sc (.int .i64 ((p : Nat) : Int))]]⟩ : Blk)] (fun r H' => ∃ z : Int, r = .one (.sc (.int .i64 z)) ∧ z ∈ l ∧ H' = [(⟨2, 88, .mut, [[.sl (byR bs), .sc (.int .i64 ((p + 1 : Nat) : Int))]]⟩ : Blk)]) := by
  have hk := pick bs hB p hp (l.length : Nat) (by omega) (by omega)
  refine acl_in Try.func82 rfl isfn_82 (Nat.le_of_ble_eq_true rfl) (fun R hR => ?_); rw [Try.results82] at hR; refine wg_run ?_; (simp only [Try.f82, go_sem, List.length_map])
  refine wd_cl [0] (by (simp only [go_sem]); first | done | rfl) hk ?_
  rintro _ _ ⟨z, rfl, hz0, hz1, rfl⟩
  obtain ⟨z, rfl⟩ := Int.eq_ofNat_of_zero_le hz0
  have hz : z < l.length := by omega
  have hm : (l.map fun x => [C.sc (.int .i64 x)])[z]? = some [C.sc (.int .i64 l[z])] := by simp [hz]
  have hz2 : decide ((0 : Int) ≤ (z : Int)) = true := by simp
  (simp only [go_sem, hm, hz2])
  exact hR _ (rat [] (hK := ⟨_, rfl, List.getElem_mem hz, rfl⟩))
theorem byte_take (l : List Int) (n k : Nat) : byte (l.take n) k = byte l k ∨ byte (l.take n) k = 0 := by
  unfold byte
  by_cases h : k < n
  · left; simp [List.getD_eq_getElem?_getD, List.getElem?_take, h]
  · right; simp [List.getD_eq_getElem?_getD, List.getElem?_take, h]
theorem opn (l : List Int) (hl : l.length < 4611686018427387904) (hb : ∀ k, 0 ≤ byte l k ∧ byte l k < 256) :
    ACl Try.prog 44 [.one (.sl (byR l))] [] (fun r H' => ∃ bs : List Int, Bs bs ∧ r = .one (.ptr 2 0 0 0) ∧ H' = [(⟨2, 88, .mut, [[.sl (byR bs), .sc (.int .i64 ((0 : Nat) : Int))]]⟩ : Blk)]) := by
  by_cases h : 2000 < l.length
  · have hd : decide (((l.length : Nat) : Int) > 2000) = true := by simp; omega
    have hd2 : decide (2000 ≤ l.length) = true := by simp; omega
    refine acl_in Try.func44 rfl isfn_44 (Nat.le_of_ble_eq_true rfl) (fun R hR => ?_); rw [Try.results44] at hR; refine wg_run ?_; (simp only [Try.f44, go_sem, hd, hd2, byR_take])
    refine hR _ (rat [0] (hK := ⟨l.take 2000, ⟨by simp; omega, fun k => ?_⟩, rfl, ?_⟩))
    · rcases byte_take l 2000 k with h | h <;> rw [h]
      · exact hb k
      · omega
    · simp
  · have hd : decide (((l.length : Nat) : Int) > 2000) = false := by simp; omega
    refine acl_in Try.func44 rfl isfn_44 (Nat.le_of_ble_eq_true rfl) (fun R hR => ?_); rw [Try.results44] at hR; refine wg_run ?_; (simp only [Try.f44, go_sem, hd])
    exact hR _ (rat [0] (hK := ⟨l, ⟨by omega, hb⟩, rfl, rfl⟩))
end Go.Proofs.Ytbiobfbonpiiiaa
