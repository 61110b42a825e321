/- Texts of the proof, one behind another. -/
import Derived.Test.YtfgjiamolknicaaKW11
import Derived.Test.YtfgjiamolknicaaKW12
import Derived.Test.YtfgjiamolknicaaKW13
import Derived.Test.YtfgjiamolknicaaKW16
import Derived.Test.YtfgjiamolknicaaKW22
import Derived.Test.YtfgjiamolknicaaKW23
set_option linter.unusedSimpArgs false
set_option linter.unusedVariables false
/- Merged terms, in the program and in the reference. On shadows. -/
namespace Go.Proofs.Grad
/-- when two terms are merged -/
noncomputable def mrgB (a b : Tm) : Bool := a.termV && (b.termV && a.alk Ty.cons b)
theorem mixM_get {L M : List T} (h : L.length = M.length) (k : Nat) (hk : k < L.length) : (mixK (zipM L M) L k)[k]? = some L[k] := mixK_get (zipM_length h) hk
theorem mixM_set {L M : List T} (h : L.length = M.length) (k : Nat) (hk : k < L.length) : (mixK (zipM L M) L k).set k (L[k].meet (M[k]'(by omega))) = mixK (zipM L M) L (k + 1) := by
  rw [← zipM_get h hk]; exact mixK_set (zipM_length h) hk
end Go.Proofs.Grad
namespace Go.Proofs.Ytfgjiamolknicaa
open Go.RowKit Go.Proofs.Sh Go.Proofs.Grad
set_option maxRecDepth 100000
set_option maxHeartbeats 16000000
theorem sTmSame (n : Nat) (hn : n ≤ 4611686018427387904) : ∀ a b : Tm, a.size < n → AFn Try.prog 104 [.agg (teC a), .agg (teC b)] (.one (.sc (.bool (a.same b)))) := by
  induction n with
  | zero => intro a b h; omega
  | succ n ih =>
    intro a b h
    have hl := telen_lt a
    have h1 := sSame 4611686018427387904 (by omega) a.type b.type (by cases a; simp only [Tm.size, Tm.type] at *; omega)
    have h2 := sSame 4611686018427387904 (by omega) a.frm b.frm (by cases a; simp only [Tm.size, Tm.frm] at *; omega)
    have e : a.same b = (a.kind == b.kind && (a.name.toList == b.name.toList && (a.num == b.num && (a.type.same b.type && (a.frm.same b.frm && (a.label == b.label && teall2 Tm.same a.kids b.kids)))))) := by
      cases a; cases b; rw [← tesames_all2]; simp only [Tm.same, Tm.kind, Tm.name, Tm.num, Tm.type, Tm.frm, Tm.label, Tm.kids, Bool.and_assoc]
    rw [e]
    by_cases hall : (a.kind == b.kind) = true ∧ (a.name.toList == b.name.toList) = true ∧ (a.num == b.num) = true ∧ a.type.same b.type = true ∧ a.frm.same b.frm = true ∧ (a.label == b.label) = true ∧ a.kids.length = b.kids.length
    · obtain ⟨b1, b2, b3, b4, b5, b6, b7⟩ := hall
      have b8 : ((a.kids.length : Int) == (b.kids.length : Int)) = true := by simp; omega
      rw [b4] at h1
      rw [b5] at h2
      rw [b1, b2, b3, b4, b5, b6]
      simp only [Bool.true_and]
      refine fn_in ?_; refine acl_in Try.func104 rfl isfn_104 (Nat.le_of_ble_eq_true rfl) (fun R hR => ?_); rw [Try.results104] at hR; refine wg_run ?_; (simp only [Try.f104, go_sem])
      repeat' (first | (first | (simp only [go_sem, int_bne, b1, b2, b3, b6, b8]) | (((first | apply sp1 | apply sp2 | apply sp3 | apply sp4 | apply sp5 | apply sp6 | apply sp7) <;> intro hb) <;> (simp only [go_sem, hb, int_bne, b1, b2, b3, b6, b8])) | ((first | apply wm_done | apply wt_done | apply wg_run | refine fk ?_ ?_) <;> (simp only [go_sem, int_bne, b1, b2, b3, b6, b8]))) | (first | refine cdq ?_ (hc := h1) | refine cmq ?_ (hc := h1) | refine ctq ?_ (hc := h1)); (simp only [go_sem]) | (first | refine cdq ?_ (hc := h2) | refine cmq ?_ (hc := h2) | refine ctq ?_ (hc := h2)); (simp only [go_sem]) | fail)
      refine wd_for [2, 3, 5] (fun k => [.one (.ptr 9 0 0 0), .one (.ptr 9 1 0 0), .one (.sc (.int .i64 (k : Nat)))]) (fun _ => [⟨9, 28, .mut, [teC a]⟩, ⟨9, 28, .mut, [teC b]⟩])
        (fun k => k ≤ a.kids.length ∧ teall2 Tm.same (a.kids.drop k) (b.kids.drop k) = teall2 Tm.same a.kids b.kids) (fun k => a.kids.length - k) 0 ⟨Nat.zero_le _, rfl⟩ (hat [0, 1] (hI := ⟨rfl, rfl⟩)) ?_
      rintro k ⟨hk0, hs⟩ G hG
      refine wg_run ?_
      (simp only [go_sem])
      ((first | apply sp1 | apply sp2 | apply sp3 | apply sp4 | apply sp5 | apply sp6 | apply sp7) <;> intro hb) <;> (simp only [go_sem, hb])
      · have hk1 : k < a.kids.length := by have := of_decide_eq_true hb; omega
        have hk2 : decide ((k : Int) < (b.kids.length : Int)) = true := by simp; omega
        have hw1 := wrap_succ hk1 (by omega)
        rw [teall2_kid hk1 (by omega)] at hs
        have hc := ih (by omega) (teKid a.kids k) (teKid b.kids k) (by have := teKid_lt hk1; omega)
        repeat' (first | (first | (simp only [go_sem, hb, hk2, hw1]) | (((first | apply sp1 | apply sp2 | apply sp3 | apply sp4 | apply sp5 | apply sp6 | apply sp7) <;> intro hb) <;> (simp only [go_sem, hb, hb, hk2, hw1])) | ((first | apply wm_done | apply wt_done | apply wg_run | refine fk ?_ ?_) <;> (simp only [go_sem, hb, hk2, hw1]))) | ((first | refine mxq6 [] ?_ | refine mxq5 [] ?_ | refine mxq4 [] ?_ | refine mxq3 [] ?_ | refine mxq2 [] ?_ | refine mxq1 [] ?_ | refine mxq0 [] ?_ | fail); (simp only [go_sem, hb, hk2])) | (first | refine cdq ?_ (hc := hc) | refine cmq ?_ (hc := hc) | refine ctq ?_ (hc := hc)); (simp only [go_sem]) | fail)
        · exact hG (k + 1) _ _ ⟨by omega, by simpa [hb] using hs⟩ (by omega) (hat [0, 1] (hI := ⟨rfl, rfl⟩))
        · (refine hR _ (rat [] (hK := ⟨?_, rfl⟩)))
          simpa [hb] using hs
      · have hk1 : ¬ k < a.kids.length := by have := of_decide_eq_false hb; omega
        rw [teall2_end hk1 b7] at hs
        (refine hR _ (rat [] (hK := ⟨?_, rfl⟩)))
        rw [← hs]
    · have hf : (a.kind == b.kind && (a.name.toList == b.name.toList && (a.num == b.num && (a.type.same b.type && (a.frm.same b.frm && (a.label == b.label && teall2 Tm.same a.kids b.kids)))))) = false := by
        rw [Bool.eq_false_iff]
        intro hx
        simp only [Bool.and_eq_true] at hx
        refine hall ⟨hx.1, hx.2.1, hx.2.2.1, hx.2.2.2.1, hx.2.2.2.2.1, hx.2.2.2.2.2.1, ?_⟩
        refine Decidable.byContradiction fun hne => ?_
        have := hx.2.2.2.2.2.2
        rw [teall2_len hne] at this; cases this
      rw [hf]
      cases b1 : (a.kind == b.kind)
      · refine fn_in ?_; refine acl_in Try.func104 rfl isfn_104 (Nat.le_of_ble_eq_true rfl) (fun R hR => ?_); rw [Try.results104] at hR; refine wg_run ?_; (simp only [Try.f104, go_sem])
        repeat' (first | (first | (simp only [go_sem, int_bne, b1]) | (((first | apply sp1 | apply sp2 | apply sp3 | apply sp4 | apply sp5 | apply sp6 | apply sp7) <;> intro hb) <;> (simp only [go_sem, hb, int_bne, b1])) | ((first | apply wm_done | apply wt_done | apply wg_run | refine fk ?_ ?_) <;> (simp only [go_sem, int_bne, b1]))) | fail)
        (refine hR _ (rat [] (hK := ⟨rfl, rfl⟩)))
      · cases b2 : (a.name.toList == b.name.toList)
        · refine fn_in ?_; refine acl_in Try.func104 rfl isfn_104 (Nat.le_of_ble_eq_true rfl) (fun R hR => ?_); rw [Try.results104] at hR; refine wg_run ?_; (simp only [Try.f104, go_sem])
          repeat' (first | (first | (simp only [go_sem, int_bne, b1, b2]) | (((first | apply sp1 | apply sp2 | apply sp3 | apply sp4 | apply sp5 | apply sp6 | apply sp7) <;> intro hb) <;> (simp only [go_sem, hb, int_bne, b1, b2])) | ((first | apply wm_done | apply wt_done | apply wg_run | refine fk ?_ ?_) <;> (simp only [go_sem, int_bne, b1, b2]))) | fail)
          (refine hR _ (rat [] (hK := ⟨rfl, rfl⟩)))
        · cases b3 : (a.num == b.num)
          · refine fn_in ?_; refine acl_in Try.func104 rfl isfn_104 (Nat.le_of_ble_eq_true rfl) (fun R hR => ?_); rw [Try.results104] at hR; refine wg_run ?_; (simp only [Try.f104, go_sem])
            repeat' (first | (first | (simp only [go_sem, int_bne, b1, b2, b3]) | (((first | apply sp1 | apply sp2 | apply sp3 | apply sp4 | apply sp5 | apply sp6 | apply sp7) <;> intro hb) <;> (simp only [go_sem, hb, int_bne, b1, b2, b3])) | ((first | apply wm_done | apply wt_done | apply wg_run | refine fk ?_ ?_) <;> (simp only [go_sem, int_bne, b1, b2, b3]))) | fail)
            (refine hR _ (rat [] (hK := ⟨rfl, rfl⟩)))
          · cases b6 : (a.label == b.label)
            · refine fn_in ?_; refine acl_in Try.func104 rfl isfn_104 (Nat.le_of_ble_eq_true rfl) (fun R hR => ?_); rw [Try.results104] at hR; refine wg_run ?_; (simp only [Try.f104, go_sem])
              repeat' (first | (first | (simp only [go_sem, int_bne, b1, b2, b3, b6]) | (((first | apply sp1 | apply sp2 | apply sp3 | apply sp4 | apply sp5 | apply sp6 | apply sp7) <;> intro hb) <;> (simp only [go_sem, hb, int_bne, b1, b2, b3, b6])) | ((first | apply wm_done | apply wt_done | apply wg_run | refine fk ?_ ?_) <;> (simp only [go_sem, int_bne, b1, b2, b3, b6]))) | fail)
              (refine hR _ (rat [] (hK := ⟨rfl, rfl⟩)))
            · by_cases b7 : a.kids.length = b.kids.length
              · have b8 : ((a.kids.length : Int) == (b.kids.length : Int)) = true := by simp; omega
                cases b4 : a.type.same b.type
                · rw [b4] at h1
                  refine fn_in ?_; refine acl_in Try.func104 rfl isfn_104 (Nat.le_of_ble_eq_true rfl) (fun R hR => ?_); rw [Try.results104] at hR; refine wg_run ?_; (simp only [Try.f104, go_sem])
                  repeat' (first | (first | (simp only [go_sem, int_bne, b1, b2, b3, b6, b8]) | (((first | apply sp1 | apply sp2 | apply sp3 | apply sp4 | apply sp5 | apply sp6 | apply sp7) <;> intro hb) <;> (simp only [go_sem, hb, int_bne, b1, b2, b3, b6, b8])) | ((first | apply wm_done | apply wt_done | apply wg_run | refine fk ?_ ?_) <;> (simp only [go_sem, int_bne, b1, b2, b3, b6, b8]))) | (first | refine cdq ?_ (hc := h1) | refine cmq ?_ (hc := h1) | refine ctq ?_ (hc := h1)); (simp only [go_sem]) | fail)
                  (refine hR _ (rat [] (hK := ⟨rfl, rfl⟩)))
                · have b5 : a.frm.same b.frm = false := by
                    cases b5 : a.frm.same b.frm with
                    | false => rfl
                    | true => exact absurd ⟨b1, b2, b3, b4, b5, b6, b7⟩ hall
                  rw [b4] at h1
                  rw [b5] at h2
                  refine fn_in ?_; refine acl_in Try.func104 rfl isfn_104 (Nat.le_of_ble_eq_true rfl) (fun R hR => ?_); rw [Try.results104] at hR; refine wg_run ?_; (simp only [Try.f104, go_sem])
                  repeat' (first | (first | (simp only [go_sem, int_bne, b1, b2, b3, b6, b8]) | (((first | apply sp1 | apply sp2 | apply sp3 | apply sp4 | apply sp5 | apply sp6 | apply sp7) <;> intro hb) <;> (simp only [go_sem, hb, int_bne, b1, b2, b3, b6, b8])) | ((first | apply wm_done | apply wt_done | apply wg_run | refine fk ?_ ?_) <;> (simp only [go_sem, int_bne, b1, b2, b3, b6, b8]))) | (first | refine cdq ?_ (hc := h1) | refine cmq ?_ (hc := h1) | refine ctq ?_ (hc := h1)); (simp only [go_sem]) | (first | refine cdq ?_ (hc := h2) | refine cmq ?_ (hc := h2) | refine ctq ?_ (hc := h2)); (simp only [go_sem]) | fail)
                  (refine hR _ (rat [] (hK := ⟨rfl, rfl⟩)))
              · have b8 : ((a.kids.length : Int) == (b.kids.length : Int)) = false := by simp; omega
                refine fn_in ?_; refine acl_in Try.func104 rfl isfn_104 (Nat.le_of_ble_eq_true rfl) (fun R hR => ?_); rw [Try.results104] at hR; refine wg_run ?_; (simp only [Try.f104, go_sem])
                repeat' (first | (first | (simp only [go_sem, int_bne, b1, b2, b3, b6, b8]) | (((first | apply sp1 | apply sp2 | apply sp3 | apply sp4 | apply sp5 | apply sp6 | apply sp7) <;> intro hb) <;> (simp only [go_sem, hb, int_bne, b1, b2, b3, b6, b8])) | ((first | apply wm_done | apply wt_done | apply wg_run | refine fk ?_ ?_) <;> (simp only [go_sem, int_bne, b1, b2, b3, b6, b8]))) | fail)
                (refine hR _ (rat [] (hK := ⟨rfl, rfl⟩)))
theorem iMergeBad (a b : Tm) (ha : a.size < 4611686018427387904) (h : mrgB a b = false) : AFn Try.prog 42 [.agg (teC a), .agg (teC b)] (.tup [.agg (teC tm0), .one (.sc (.bool false))]) := by
  have h1 := iTermV a
  have h2 := iTermV b
  have h3 := iAlike 108 Ty.cons (fun x y hx => iCons _ (Nat.le_refl _) x y hx) _ (Nat.le_refl _) a b ha
  unfold mrgB at h
  simp only [tm0, noTy]
  cases e1 : a.termV
  · rw [e1] at h1
    refine fn_in ?_; refine acl_in Try.func42 rfl isfn_42 (Nat.le_of_ble_eq_true rfl) (fun R hR => ?_); rw [Try.results42] at hR; refine wg_run ?_; (simp only [Try.f42, go_sem])
    repeat' (first | (first | (((first | apply sp1 | apply sp2 | apply sp3 | apply sp4 | apply sp5 | apply sp6 | apply sp7) <;> intro hb) <;> (simp only [go_sem, hb])) | ((first | apply wm_done | apply wt_done | apply wg_run | refine fk ?_ ?_) <;> (simp only [go_sem]))) | (first | refine cdq ?_ (hc := h1) | refine cmq ?_ (hc := h1) | refine ctq ?_ (hc := h1)); (simp only [go_sem]) | fail)
    (refine hR _ (rat [] (hK := ⟨rfl, rfl⟩)))
  · cases e2 : b.termV
    · rw [e1] at h1
      rw [e2] at h2
      refine fn_in ?_; refine acl_in Try.func42 rfl isfn_42 (Nat.le_of_ble_eq_true rfl) (fun R hR => ?_); rw [Try.results42] at hR; refine wg_run ?_; (simp only [Try.f42, go_sem])
      repeat' (first | (first | (((first | apply sp1 | apply sp2 | apply sp3 | apply sp4 | apply sp5 | apply sp6 | apply sp7) <;> intro hb) <;> (simp only [go_sem, hb])) | ((first | apply wm_done | apply wt_done | apply wg_run | refine fk ?_ ?_) <;> (simp only [go_sem]))) | (first | refine cdq ?_ (hc := h1) | refine cmq ?_ (hc := h1) | refine ctq ?_ (hc := h1)); (simp only [go_sem]) | (first | refine cdq ?_ (hc := h2) | refine cmq ?_ (hc := h2) | refine ctq ?_ (hc := h2)); (simp only [go_sem]) | fail)
      (refine hR _ (rat [] (hK := ⟨rfl, rfl⟩)))
    · rw [e1] at h1
      rw [e2] at h2
      rw [e1, e2, Bool.true_and, Bool.true_and] at h
      rw [h] at h3
      refine fn_in ?_; refine acl_in Try.func42 rfl isfn_42 (Nat.le_of_ble_eq_true rfl) (fun R hR => ?_); rw [Try.results42] at hR; refine wg_run ?_; (simp only [Try.f42, go_sem])
      repeat' (first | (first | (((first | apply sp1 | apply sp2 | apply sp3 | apply sp4 | apply sp5 | apply sp6 | apply sp7) <;> intro hb) <;> (simp only [go_sem, hb])) | ((first | apply wm_done | apply wt_done | apply wg_run | refine fk ?_ ?_) <;> (simp only [go_sem]))) | (first | refine cdq ?_ (hc := h1) | refine cmq ?_ (hc := h1) | refine ctq ?_ (hc := h1)); (simp only [go_sem]) | (first | refine cdq ?_ (hc := h2) | refine cmq ?_ (hc := h2) | refine ctq ?_ (hc := h2)); (simp only [go_sem]) | (first | refine cdq ?_ (hc := h3) | refine cmq ?_ (hc := h3) | refine ctq ?_ (hc := h3)); (simp only [go_sem]) | fail)
      (refine hR _ (rat [] (hK := ⟨rfl, rfl⟩)))
theorem sMergeInv (a b : Tm) (ha : a.size < 1000000000) (hb : b.size < 1000000000) (h : (a.termV && b.termV) = false) : AFn Try.prog 41 [.agg (teC a), .agg (teC b)] (.tup [.agg (teC tm0), .one (.sc (.bool false))]) := by
  have key : ∀ x : Tm, x.size < 1000000000 → ∃ y : Tm, AFn Try.prog 32 [.agg (teC x)] (.tup [.agg (teC y), .one (.sc (.bool x.termV))]) := by
    intro x hx
    cases e : x.termV with
    | false => exact ⟨_, sEraseBad x e hx⟩
    | true => obtain ⟨f, rfl, ho⟩ := Tm.termV_E e; exact ⟨_, sErase f ho⟩
  obtain ⟨y1, h1⟩ := key a ha
  obtain ⟨y2, h2⟩ := key b hb
  simp only [tm0, noTy]
  cases e1 : a.termV
  · rw [e1] at h1
    refine fn_in ?_; refine acl_in Try.func41 rfl isfn_41 (Nat.le_of_ble_eq_true rfl) (fun R hR => ?_); rw [Try.results41] at hR; refine wg_run ?_; (simp only [Try.f41, go_sem])
    repeat' (first | (first | (((first | apply sp1 | apply sp2 | apply sp3 | apply sp4 | apply sp5 | apply sp6 | apply sp7) <;> intro hb) <;> (simp only [go_sem, hb])) | ((first | apply wm_done | apply wt_done | apply wg_run | refine fk ?_ ?_) <;> (simp only [go_sem]))) | (first | refine cdq ?_ (hc := h1) | refine cmq ?_ (hc := h1) | refine ctq ?_ (hc := h1)); (simp only [go_sem]) | (first | refine cdq ?_ (hc := h2) | refine cmq ?_ (hc := h2) | refine ctq ?_ (hc := h2)); (simp only [go_sem]) | fail)
    all_goals (refine hR _ (rat [] (hK := ⟨rfl, rfl⟩)))
  · rw [e1, Bool.true_and] at h
    rw [e1] at h1
    rw [h] at h2
    refine fn_in ?_; refine acl_in Try.func41 rfl isfn_41 (Nat.le_of_ble_eq_true rfl) (fun R hR => ?_); rw [Try.results41] at hR; refine wg_run ?_; (simp only [Try.f41, go_sem])
    repeat' (first | (first | (((first | apply sp1 | apply sp2 | apply sp3 | apply sp4 | apply sp5 | apply sp6 | apply sp7) <;> intro hb) <;> (simp only [go_sem, hb])) | ((first | apply wm_done | apply wt_done | apply wg_run | refine fk ?_ ?_) <;> (simp only [go_sem]))) | (first | refine cdq ?_ (hc := h1) | refine cmq ?_ (hc := h1) | refine ctq ?_ (hc := h1)); (simp only [go_sem]) | (first | refine cdq ?_ (hc := h2) | refine cmq ?_ (hc := h2) | refine ctq ?_ (hc := h2)); (simp only [go_sem]) | fail)
    all_goals (refine hR _ (rat [] (hK := ⟨rfl, rfl⟩)))
theorem sMergeDif (a b : E) (ha : a.okT = true) (hb : b.okT = true) (h : (a.mapE E.era1).tm.same (b.mapE E.era1).tm = false) : AFn Try.prog 41 [.agg (teC a.tm), .agg (teC b.tm)] (.tup [.agg (teC tm0), .one (.sc (.bool false))]) := by
  have h1 := sErase a ha
  have h2 := sErase b hb
  have hz := E.size_okT (E.era_okT ha)
  have h3 := sTmSame 4611686018427387904 (by omega) (a.mapE E.era1).tm (b.mapE E.era1).tm (by omega)
  rw [h] at h3
  simp only [tm0, noTy]
  refine fn_in ?_; refine acl_in Try.func41 rfl isfn_41 (Nat.le_of_ble_eq_true rfl) (fun R hR => ?_); rw [Try.results41] at hR; refine wg_run ?_; (simp only [Try.f41, go_sem])
  repeat' (first | (first | (((first | apply sp1 | apply sp2 | apply sp3 | apply sp4 | apply sp5 | apply sp6 | apply sp7) <;> intro hb) <;> (simp only [go_sem, hb])) | ((first | apply wm_done | apply wt_done | apply wg_run | refine fk ?_ ?_) <;> (simp only [go_sem]))) | (first | refine cdq ?_ (hc := h1) | refine cmq ?_ (hc := h1) | refine ctq ?_ (hc := h1)); (simp only [go_sem]) | (first | refine cdq ?_ (hc := h2) | refine cmq ?_ (hc := h2) | refine ctq ?_ (hc := h2)); (simp only [go_sem]) | (first | refine cdq ?_ (hc := h3) | refine cmq ?_ (hc := h3) | refine ctq ?_ (hc := h3)); (simp only [go_sem]) | fail)
  all_goals (refine hR _ (rat [] (hK := ⟨rfl, rfl⟩)))
theorem sMergeE (a b : E) (ha : a.okT = true) (hb : b.okT = true) (h : (a.mapE E.era1).tm.same (b.mapE E.era1).tm = true) : AFn Try.prog 41 [.agg (teC a.tm), .agg (teC b.tm)] (match all2P T.cons a.tl b.tl with | true => .tup [.agg (teC (a.mrg b).tm), .one (.sc (.bool true))] | false => .tup [.agg (teC tm0), .one (.sc (.bool false))]) := by
  have ha' := ha; have hb' := hb
  simp only [E.okT, Bool.and_eq_true, decide_eq_true_eq] at ha' hb'
  have h1 := sErase a ha
  have h2 := sErase b hb
  have hz := E.size_okT (E.era_okT ha)
  have h3 := sTmSame 4611686018427387904 (by omega) (a.mapE E.era1).tm (b.mapE E.era1).tm (by omega)
  rw [h] at h3
  have hda := E.tl_depth a ha'.1 ha'.2.1
  have hdb := E.tl_depth b hb'.1 hb'.2.1
  have hc := sTermTypesO a ha
  have hc2 := sTermTypesO b hb
  have hla := a.tl_length
  have hlb := b.tl_length
  have hn : b.nt = a.nt := by rw [← E.era_nt b, ← E.tm_inj _ _ ((Tm.same_iff _ _).1 h), E.era_nt]
  have hn30 := nt30 ha
  rw [hn] at hc2 hlb
  have hLM : a.tl.length = b.tl.length := by omega
  have hwt := fun (hx : all2P T.cons a.tl b.tl = true) => sWithTypes a ha (zipM a.tl b.tl) (zipM_depth hda hdb) (by rw [zipM_length hLM, hla])
  rw [show (a.wt (zipM a.tl b.tl)).1 = a.mrg b from rfl] at hwt
  have hco := fun (k : Nat) (h1 : k < a.tl.length) (h2 : k < b.tl.length) => l1Cons (a.tl[k].size + 1) a.tl[k] b.tl[k] (Nat.lt_succ_self _)
  have hme := fun (k : Nat) (h1 : k < a.tl.length) (h2 : k < b.tl.length) => l1Meet a.tl[k] b.tl[k] (hda _ (List.getElem_mem _)) (hdb _ (List.getElem_mem _))
  clear hda hdb h ha hb ha' hb' hn hz
  generalize (a.mapE E.era1).tm = ea at *
  generalize (b.mapE E.era1).tm = eb at *
  generalize (a.mrg b).tm = t2 at *
  generalize b.tm = tb at *
  generalize a.tm = ta at *
  generalize a.tl = L at *
  generalize b.tl = M at *
  generalize a.nt = n at *
  have hlm : (M.map T.ty).length = n := by rw [List.length_map]; omega
  refine fn_in ?_; refine acl_in Try.func41 rfl isfn_41 (Nat.le_of_ble_eq_true rfl) (fun R hR => ?_); rw [Try.results41] at hR; refine wg_run ?_; (simp only [Try.f41, go_sem])
  repeat' (first | (first | (((first | apply sp1 | apply sp2 | apply sp3 | apply sp4 | apply sp5 | apply sp6 | apply sp7) <;> intro hb) <;> (simp only [go_sem, hb])) | ((first | apply wm_done | apply wt_done | apply wg_run | refine fk ?_ ?_) <;> (simp only [go_sem]))) | (first | refine cdq ?_ (hc := h1) | refine cmq ?_ (hc := h1) | refine ctq ?_ (hc := h1)); (simp only [go_sem]) | (first | refine cdq ?_ (hc := h2) | refine cmq ?_ (hc := h2) | refine ctq ?_ (hc := h2)); (simp only [go_sem]) | (first | refine cdq ?_ (hc := h3) | refine cmq ?_ (hc := h3) | refine ctq ?_ (hc := h3)); (simp only [go_sem]) | ((first | refine kdq [] ?_ (hc := hc) | refine kmq [] ?_ (hc := hc) | refine ktq [] ?_ (hc := hc)); rintro _ _ ⟨rfl, rfl⟩ <;> (simp only [go_sem])) | ((first | refine kdq [] ?_ (hc := hc2) | refine kmq [] ?_ (hc := hc2) | refine ktq [] ?_ (hc := hc2)); rintro _ _ ⟨rfl, rfl⟩ <;> (simp only [go_sem])) | fail)
  refine wd_for (σ := Nat) [2, 4, 10, 11, 12] (fun k => [.one (.ptr 9 0 0 0), .one (.ptr 9 1 0 0), .one (.row 2 2 n), .one (.sl (tyR (M.map T.ty))), .one (.sc (.int .i64 (k : Nat)))])
    (fun k => [⟨9, 28, .mut, [teC ta]⟩, ⟨9, 28, .mut, [[.sc (.int .i64 0), .sc (.string { data := { toList := [] } }), .sc (.int .i64 0), .sc (.int .i64 0), .sc (.slice none 0 0), .sc (.int .i64 0), .sc (.slice none 0 0), .sc (.int .i64 0), .sc (.slice none 0 0)]]⟩, ⟨2, 25, .mut, tyR ((mixK (zipM L M) L k).map T.ty)⟩])
    (fun k => k ≤ n ∧ ∀ (i : Nat) (h1 : i < L.length) (h2 : i < M.length), i < k → L[i].cons M[i] = true) (fun k => n - k) 0 ⟨Nat.zero_le _, fun i _ _ h => by omega⟩ (head_at [0, 2, 5] (by (simp only [go_sem]); first | done | rfl) (by (simp only [go_sem, hlm]); first | done | rfl) ⟨rfl, by rw [mixK_zero]⟩) ?_
  rintro k ⟨hk, hI⟩ G hG
  refine wg_run ?_
  by_cases hk1 : k < n
  · have d1 : decide ((k : Int) < (n : Nat)) = true := by simp; omega
    have hin : decide (k < n) = true := by simpa using hk1
    have hw1 := wrap_succ hk1 (by omega)
    have hkL : k < L.length := by omega
    have hkM : k < M.length := by omega
    have hlm : (M.map T.ty).length = n := by rw [List.length_map]; omega
    have hco1 := hco k hkL hkM
    have hme1 := hme k hkL hkM
    have hset := tyRset ((mixK (zipM L M) L k).map T.ty) k (L[k].meet M[k]).ty
    rw [← List.map_set, mixM_set hLM k hkL] at hset
    have hg : (tyR ((mixK (zipM L M) L k).map T.ty))[k]? = some (tyC L[k].ty) := by rw [tyR_get, List.getElem?_map, mixM_get hLM k hkL]; rfl
    have hkd : kid (M.map T.ty) k = M[k].ty := by rw [kid_eq (by simpa using hkM)]; simp
    have hg2 : (tyR (M.map T.ty))[k]? = some (tyC M[k].ty) := by rw [tyR_get, List.getElem?_map, List.getElem?_eq_getElem hkM]; rfl
    have hnx : L[k].cons M[k] = true → ∀ (i : Nat) (h1 : i < L.length) (h2 : i < M.length), i < k + 1 → L[i].cons M[i] = true := by
      intro hck i h1 h2 h3
      by_cases e : i = k
      · subst e; exact hck
      · exact hI i h1 h2 (by omega)
    have hno : L[k].cons M[k] = false → all2P T.cons L M = false := by
      intro hck
      cases e : all2P T.cons L M with
      | false => rfl
      | true => rw [all2P_get e k hkL hkM] at hck; cases hck
    generalize L[k].meet M[k] = u3 at *
    cases ec : L[k].cons M[k]
    · have hn0 := hno ec
      rw [ec] at hco1
      clear hme1 hnx hno hme hco hG
      generalize L[k] = u1 at *
      generalize M[k] = u2 at *
      rw [tyC_eq u1.ty] at hg hco1
      repeat' (first | (first | (simp only [go_sem, d1, hin, hw1, hg, hg2, hkd, hlm]) | (((first | apply sp1 | apply sp2 | apply sp3 | apply sp4 | apply sp5 | apply sp6 | apply sp7) <;> intro hb) <;> (simp only [go_sem, hb, d1, hin, hw1, hg, hg2, hkd, hlm])) | ((first | apply wm_done | apply wt_done | apply wg_run | refine fk ?_ ?_) <;> (simp only [go_sem, d1, hin, hw1, hg, hg2, hkd, hlm]))) | (first | refine cdq ?_ (hc := hco1) | refine cmq ?_ (hc := hco1) | refine ctq ?_ (hc := hco1)); (simp only [go_sem]) | ((first | refine mxq6 [] ?_ | refine mxq5 [] ?_ | refine mxq4 [] ?_ | refine mxq3 [] ?_ | refine mxq2 [] ?_ | refine mxq1 [] ?_ | refine mxq0 [] ?_ | fail); (simp only [go_sem, d1, hin, hw1, hg, hg2, hkd, hlm])) | fail)
      (refine hR _ (rat [] (hK := ⟨?_, rfl⟩)))
      rw [hn0]; rfl
    · rw [ec] at hco1
      have hme1 := hme1 ec
      have hnx2 := hnx ec
      clear hno hme hco hnx
      generalize L[k] = u1 at *
      generalize M[k] = u2 at *
      rw [tyC_eq u1.ty] at hg hme1 hco1
      rw [tyC_eq u3.ty] at hset hme1
      repeat' (first | (first | (simp only [go_sem, d1, hin, hw1, hg, hg2, hkd, hset, hlm]) | (((first | apply sp1 | apply sp2 | apply sp3 | apply sp4 | apply sp5 | apply sp6 | apply sp7) <;> intro hb) <;> (simp only [go_sem, hb, d1, hin, hw1, hg, hg2, hkd, hset, hlm])) | ((first | apply wm_done | apply wt_done | apply wg_run | refine fk ?_ ?_) <;> (simp only [go_sem, d1, hin, hw1, hg, hg2, hkd, hset, hlm]))) | (first | refine cdq ?_ (hc := hco1) | refine cmq ?_ (hc := hco1) | refine ctq ?_ (hc := hco1)); (simp only [go_sem]) | (first | refine cdq ?_ (hc := hme1) | refine cmq ?_ (hc := hme1) | refine ctq ?_ (hc := hme1)); (simp only [go_sem]) | ((first | refine mxq6 [] ?_ | refine mxq5 [] ?_ | refine mxq4 [] ?_ | refine mxq3 [] ?_ | refine mxq2 [] ?_ | refine mxq1 [] ?_ | refine mxq0 [] ?_ | fail); (simp only [go_sem, d1, hin, hw1, hg, hg2, hkd, hset, hlm])) | fail)
      all_goals exact hG (k + 1) _ _ ⟨by omega, hnx2⟩ (by omega) (hat [0, 1, 2] (hI := ⟨rfl, rfl⟩))
  · have d1 : decide ((k : Int) < (n : Nat)) = false := by simp; omega
    have hb0 : mixK (zipM L M) L k = zipM L M := mixK_all (zipM_length hLM) (by omega)
    have hlb2 : (zipM L M).length = n := by rw [zipM_length hLM]; exact hla
    have htk : (tyR ((zipM L M).map T.ty)).take n = tyR ((zipM L M).map T.ty) := List.take_of_length_le (by rw [tyR_length, List.length_map, hlb2]; exact Nat.le_refl _)
    have hall : all2P T.cons L M = true := all2P_of hLM fun i h1 h2 => hI i h1 h2 (by omega)
    have hwt := hwt hall
    rw [hb0]
    clear hG hme hco hI
    repeat' (first | (first | (simp only [go_sem, d1, hlb2, htk, List.length_map]) | (((first | apply sp1 | apply sp2 | apply sp3 | apply sp4 | apply sp5 | apply sp6 | apply sp7) <;> intro hb) <;> (simp only [go_sem, hb, d1, hlb2, htk, List.length_map])) | ((first | apply wm_done | apply wt_done | apply wg_run | refine fk ?_ ?_) <;> (simp only [go_sem, d1, hlb2, htk, List.length_map]))) | (first | refine cd (hp := (by (simp only [go_sem, hlb2, htk, List.length_map]); first | done | rfl)) (hc := hwt) (hK := ?_) | refine cm (hp := (by (simp only [go_sem, hlb2, htk, List.length_map]); first | done | rfl)) (hc := hwt) (hK := ?_) | refine ct (hp := (by (simp only [go_sem, hlb2, htk, List.length_map]); first | done | rfl)) (hc := hwt) (hK := ?_)); (simp only [go_sem, hlb2, htk, List.length_map]) | ((first | refine mxq6 [] ?_ | refine mxq5 [] ?_ | refine mxq4 [] ?_ | refine mxq3 [] ?_ | refine mxq2 [] ?_ | refine mxq1 [] ?_ | refine mxq0 [] ?_ | fail); (simp only [go_sem, d1, hlb2, htk, List.length_map])) | fail)
    (refine hR _ (rat [] (hK := ⟨?_, rfl⟩)))
    rw [hall]
/-- what the reference's MergeTerms yields -/
theorem sMergeBad (a b : Tm) (ha : a.size < 1000000000) (hb : b.size < 1000000000) (h : mrgB a b = false) : AFn Try.prog 41 [.agg (teC a), .agg (teC b)] (.tup [.agg (teC tm0), .one (.sc (.bool false))]) := by
  unfold mrgB at h
  cases e1 : a.termV
  · exact sMergeInv a b ha hb (by rw [e1]; rfl)
  · cases e2 : b.termV
    · exact sMergeInv a b ha hb (by rw [e1, e2]; rfl)
    · rw [e1, e2, Bool.true_and, Bool.true_and] at h
      obtain ⟨x, rfl, hx⟩ := Tm.termV_E e1
      obtain ⟨y, rfl, hy⟩ := Tm.termV_E e2
      have hx' := hx; have hy' := hy
      simp only [E.okT, Bool.and_eq_true] at hx' hy'
      rw [E.alk_dec (fun a b => T.cons_ty a b) hx'.2.1 hy'.2.1] at h
      cases e3 : (x.mapE E.era1).tm.same (y.mapE E.era1).tm
      · exact sMergeDif x y hx hy e3
      · rw [e3, Bool.true_and] at h
        have := sMergeE x y hx hy e3
        rw [h] at this; exact this
theorem sMergeGood (a b : E) (ha : a.okT = true) (hb : b.okT = true) (h : a.tm.alk Ty.cons b.tm = true) : AFn Try.prog 41 [.agg (teC a.tm), .agg (teC b.tm)] (.tup [.agg (teC (a.mrg b).tm), .one (.sc (.bool true))]) := by
  have ha' := ha; have hb' := hb
  simp only [E.okT, Bool.and_eq_true] at ha' hb'
  rw [E.alk_dec (fun a b => T.cons_ty a b) ha'.2.1 hb'.2.1, Bool.and_eq_true] at h
  have := sMergeE a b ha hb h.1
  rw [h.2] at this; exact this
end Go.Proofs.Ytfgjiamolknicaa
/- Owned trees: rows changed where they lie. -/
namespace Go.Proofs.Sh
def dgs (k : Nat) (out : ByteArray) : ByteArray := if h : k = 0 then out else dgs (k / 10) (bytesOf [((48 + k % 10 : Nat) : Int)] ++ out)
termination_by k
decreasing_by omega
theorem dgs_zero (out : ByteArray) : dgs 0 out = out := by rw [dgs]; simp
theorem dgs_pos {k : Nat} (h : 0 < k) (out : ByteArray) : dgs k out = dgs (k / 10) (bytesOf [((48 + k % 10 : Nat) : Int)] ++ out) := by
  rw [dgs, dif_neg (by omega)]
def mkT (k : Nat) : ByteArray := ⟨#[109]⟩ ++ dgs k ByteArray.empty
end Go.Proofs.Sh
namespace Go.Proofs.Sh
open Go.RowKit Go.Proofs.Grad

/-- a row of an owned slice, and what is so when it has been changed -/
theorem row_upd {h : List Blk} {d s b n i : Nat} {R : List (List C)} {js : List Nat} (h0 : ow h (d + 1) (.row s b n) = some (.sl R, b :: js)) (hn : (b :: js).Nodup) (hi : i < R.length) :
    ∃ ty rows r E pre is post, h[b]? = some ⟨s, ty, .mut, rows⟩ ∧ rows.length = n ∧ R.length = n ∧ rows[i]? = some r ∧ R[i]? = some E ∧ r.length = s ∧ fzL (ow h d) r = some (E, is) ∧ js = pre ++ (is ++ post) ∧ is.Nodup ∧ b ∉ is ∧ (∀ x ∈ pre ++ post, x ∉ is ∧ x ≠ b) ∧
      (∀ h2 r' E', r'.length = s → h2[b]? = some ⟨s, ty, .mut, rows.set i r'⟩ → fzL (ow h2 d) r' = some (E', is) → (∀ x ∈ pre ++ post, h2[x]? = h[x]?) → ow h2 (d + 1) (.row s b n) = some (.sl (R.set i E'), b :: js)) := by
  obtain ⟨d', k, R', js', e, h1, h2, h3, h4, h5, h6, h7, h8⟩ := ow_row h0
  cases e; cases h7; cases h8
  obtain ⟨ks, kty, kst, rows⟩ := k
  simp only at h2 h3 h4 h5 h6
  have hst : kst = .mut := by cases kst <;> simp [St.isMut] at h2 ⊢
  subst hst h4
  have hl := fzRows_len h6
  have hir : i < rows.length := by omega
  obtain ⟨E, pre, is, post, q1, q2, q3, q4, q5⟩ := fzRows_split h6 (List.getElem?_eq_getElem hir)
  obtain ⟨hb, hjs⟩ := List.nodup_cons.1 hn
  have hjs' := hjs
  rw [q3] at hjs' hb
  obtain ⟨a1, a2, a3⟩ := List.nodup_append.1 hjs'
  obtain ⟨a4, a5, a6⟩ := List.nodup_append.1 a2
  refine ⟨kty, rows, rows[i], E, pre, is, post, h1, h3, by omega, List.getElem?_eq_getElem hir, q1, rowsLen_spec h5 _ (List.getElem_mem hir), q2, q3, a4, fun hm => hb (by simp [hm]), fun x hx => ⟨fun hm => ?_, fun e => hb (by subst e; rcases List.mem_append.1 hx with hx | hx <;> simp [hx])⟩, fun h2' r' E' hr hb he hx => ?_⟩
  · rcases List.mem_append.1 hx with hx | hx
    · exact a3 x hx x (by simp [hm]) rfl
    · exact a6 x hm x hx rfl
  · refine ow_row_of hb rfl (by simp [h3]) rfl ?_ ?_
    · simp only [rowsLen, List.all_eq_true, beq_iff_eq]
      intro x hx
      rcases List.mem_or_eq_of_mem_set hx with hx | rfl
      · exact rowsLen_spec h5 x hx
      · exact hr
    · rw [q3]
      exact fzRows_set hir hl (owR_frame q4 (fun x hx' => hx x (by simp [hx']))) he (owR_frame q5 (fun x hx' => hx x (by simp [hx'])))
theorem owR_lt {h : List Blk} {d s b n : Nat} {c' : C} {js : List Nat} (h0 : ow h d (.row s b n) = some (c', b :: js)) (x : Nat) (hx : x ∈ js) : x < h.length := (ow_mut h0 x (by simp [hx])).lt
end Go.Proofs.Sh
namespace Go.Proofs.Grad
mutual
def Ty.mark : Ty → Nat → Ty
  | .mk _ l, k => .mk (k : Int) (Ty.marks l (k + 1))
def Ty.marks : List Ty → Nat → List Ty
  | [], _ => []
  | t :: l, k => t.mark k :: Ty.marks l (k + t.size)
end
theorem Ty.mark_eq (t : Ty) (k : Nat) : t.mark k = .mk (k : Int) (Ty.marks t.kids (k + 1)) := by cases t; rfl
theorem Ty.marks_append : ∀ (l m : List Ty) (k : Nat), Ty.marks (l ++ m) k = Ty.marks l k ++ Ty.marks m (k + Ty.sizes l)
  | [], m, k => by simp [Ty.marks, Ty.sizes]
  | t :: l, m, k => by simp only [List.cons_append, Ty.marks, Ty.sizes, Ty.marks_append l m, Nat.add_assoc]
theorem Ty.marks_length : ∀ (l : List Ty) (k : Nat), (Ty.marks l k).length = l.length
  | [], _ => rfl
  | t :: l, k => by simp [Ty.marks, Ty.marks_length l]
theorem Ty.sizes_append : ∀ (l m : List Ty), Ty.sizes (l ++ m) = Ty.sizes l + Ty.sizes m
  | [], m => by simp [Ty.sizes]
  | t :: l, m => by simp only [List.cons_append, Ty.sizes, Ty.sizes_append l m, Nat.add_assoc]
/-- a list of which the first i are marked -/
def Ty.part (l : List Ty) (k i : Nat) : List Ty := Ty.marks (l.take i) k ++ l.drop i
theorem Ty.part_length (l : List Ty) (k i : Nat) : (Ty.part l k i).length = l.length := by
  simp only [Ty.part, List.length_append, Ty.marks_length, List.length_take, List.length_drop]; omega
end Go.Proofs.Grad
namespace Go.Proofs.Sh
open Go.RowKit Go.Proofs.Grad
theorem Ty.part_get {l : List Ty} {k i : Nat} (h : i < l.length) : (Ty.part l k i)[i]? = some (kid l i) := by
  have hl : (Ty.marks (l.take i) k).length = i := by rw [Ty.marks_length, List.length_take]; omega
  rw [Ty.part, List.getElem?_append_right (by omega), hl, Nat.sub_self, drop_kid h]; rfl
theorem Ty.part_set {l : List Ty} {k i : Nat} (h : i < l.length) : (Ty.part l k i).set i ((kid l i).mark (k + Ty.sizes (l.take i))) = Ty.part l k (i + 1) := by
  have hl : (Ty.marks (l.take i) k).length = i := by rw [Ty.marks_length, List.length_take]; omega
  rw [Ty.part, List.set_append_right _ _ (by omega), hl, Nat.sub_self, drop_kid h, Ty.part, take_kid h, Ty.marks_append]
  simp [Ty.marks]
theorem Ty.sizes_take {l : List Ty} {i : Nat} (h : i < l.length) : Ty.sizes (l.take (i + 1)) = Ty.sizes (l.take i) + (kid l i).size := by
  rw [take_kid h, Ty.sizes_append]; simp [Ty.sizes]
theorem tyR_set (l : List Ty) (i : Nat) (t : Ty) : (tyR l).set i (tyC t) = tyR (l.set i t) := by
  induction l generalizing i with
  | nil => rfl
  | cons x l ih => cases i <;> simp [tyR, ih]
theorem Ty.sizes_take_le (l : List Ty) (i : Nat) : Ty.sizes (l.take i) ≤ Ty.sizes l := by
  have := Ty.sizes_append (l.take i) (l.drop i)
  rw [List.take_append_drop] at this; omega
end Go.Proofs.Sh
namespace Go.Proofs.Grad
open Go.Proofs.Sh
mutual
/-- how many marks a term takes -/
def Tm.mw : Tm → Nat
  | .mk _ _ _ t f _ l => 6 + (Ty.sizes t.kids + (Ty.sizes f.kids + Tm.mws l))
def Tm.mws : List Tm → Nat
  | [] => 0
  | t :: l => t.mw + Tm.mws l
end
mutual
def Tm.mark : Tm → Nat → Tm
  | .mk _ _ _ t f _ l, k => .mk (k : Int) (mkT (k + 1)) ((k + 2 : Nat) : Int) (.mk ((k + 3 : Nat) : Int) (Ty.marks t.kids (k + 4))) (.mk ((k + 4 + Ty.sizes t.kids : Nat) : Int) (Ty.marks f.kids (k + 4 + Ty.sizes t.kids + 1)))
      ((k + 4 + Ty.sizes t.kids + 1 + Ty.sizes f.kids : Nat) : Int) (Tm.marks l (k + 4 + Ty.sizes t.kids + 1 + Ty.sizes f.kids + 1))
def Tm.marks : List Tm → Nat → List Tm
  | [], _ => []
  | t :: l, k => t.mark k :: Tm.marks l (k + t.mw)
end
theorem Tm.mark_eq (t : Tm) (k : Nat) : t.mark k = .mk (k : Int) (mkT (k + 1)) ((k + 2 : Nat) : Int) (.mk ((k + 3 : Nat) : Int) (Ty.marks t.type.kids (k + 4))) (.mk ((k + 4 + Ty.sizes t.type.kids : Nat) : Int) (Ty.marks t.frm.kids (k + 4 + Ty.sizes t.type.kids + 1)))
      ((k + 4 + Ty.sizes t.type.kids + 1 + Ty.sizes t.frm.kids : Nat) : Int) (Tm.marks t.kids (k + 4 + Ty.sizes t.type.kids + 1 + Ty.sizes t.frm.kids + 1)) := by cases t; rfl
theorem Tm.mw_eq (t : Tm) : t.mw = 6 + (Ty.sizes t.type.kids + (Ty.sizes t.frm.kids + Tm.mws t.kids)) := by cases t; rfl
theorem Tm.marks_append : ∀ (l m : List Tm) (k : Nat), Tm.marks (l ++ m) k = Tm.marks l k ++ Tm.marks m (k + Tm.mws l)
  | [], m, k => by simp [Tm.marks, Tm.mws]
  | t :: l, m, k => by simp only [List.cons_append, Tm.marks, Tm.mws, Tm.marks_append l m, Nat.add_assoc]
theorem Tm.marks_length : ∀ (l : List Tm) (k : Nat), (Tm.marks l k).length = l.length
  | [], _ => rfl
  | t :: l, k => by simp [Tm.marks, Tm.marks_length l]
theorem Tm.mws_append : ∀ (l m : List Tm), Tm.mws (l ++ m) = Tm.mws l + Tm.mws m
  | [], m => by simp [Tm.mws]
  | t :: l, m => by simp only [List.cons_append, Tm.mws, Tm.mws_append l m, Nat.add_assoc]
def Tm.part (l : List Tm) (k i : Nat) : List Tm := Tm.marks (l.take i) k ++ l.drop i
theorem Tm.part_length (l : List Tm) (k i : Nat) : (Tm.part l k i).length = l.length := by
  simp only [Tm.part, List.length_append, Tm.marks_length, List.length_take, List.length_drop]; omega
theorem Tm.part_get {l : List Tm} {k i : Nat} (h : i < l.length) : (Tm.part l k i)[i]? = some (teKid l i) := by
  have hl : (Tm.marks (l.take i) k).length = i := by rw [Tm.marks_length, List.length_take]; omega
  rw [Tm.part, List.getElem?_append_right (by omega), hl, Nat.sub_self, tedrop_kid h]; rfl
theorem Tm.part_set {l : List Tm} {k i : Nat} (h : i < l.length) : (Tm.part l k i).set i ((teKid l i).mark (k + Tm.mws (l.take i))) = Tm.part l k (i + 1) := by
  have hl : (Tm.marks (l.take i) k).length = i := by rw [Tm.marks_length, List.length_take]; omega
  rw [Tm.part, List.set_append_right _ _ (by omega), hl, Nat.sub_self, tedrop_kid h, Tm.part, tetake_kid h, Tm.marks_append]
  simp [Tm.marks]
theorem Tm.mws_take {l : List Tm} {i : Nat} (h : i < l.length) : Tm.mws (l.take (i + 1)) = Tm.mws (l.take i) + (teKid l i).mw := by
  rw [tetake_kid h, Tm.mws_append]; simp [Tm.mws]
theorem Tm.mws_take_le (l : List Tm) (i : Nat) : Tm.mws (l.take i) ≤ Tm.mws l := by
  have := Tm.mws_append (l.take i) (l.drop i)
  rw [List.take_append_drop] at this; omega
theorem Tm.len_mws : ∀ l : List Tm, l.length ≤ Tm.mws l
  | [] => Nat.le_refl _
  | t :: l => by have := Tm.len_mws l; have := t.mw_eq; simp only [List.length_cons, Tm.mws]; omega
end Go.Proofs.Grad
namespace Go.Proofs.Sh
open Go.RowKit Go.Proofs.Grad
theorem teR_set (l : List Tm) (i : Nat) (t : Tm) : (teR l).set i (teC t) = teR (l.set i t) := by
  induction l generalizing i with
  | nil => rfl
  | cons x l ih => cases i <;> simp [teR, ih]
end Go.Proofs.Sh
/- Owned trees behind known blocks: calls that make, read and mark them. -/
namespace Go.Proofs.Sh
open Go.RowKit Go.Proofs.Grad

/-- a struct's cells, a tree owned in T, which lies behind p blocks -/
structure OwnT (p : Nat) (T : List Blk) (cs enc : List C) (ids : List Nat) : Prop where
  nodup : ids.Nodup
  ge : ∀ b ∈ ids, p ≤ b
  own : ∃ d, ∀ pre : List Blk, pre.length = p → fzL (ow (pre ++ T) d) cs = some (enc, ids)
theorem OwnT.lt {p : Nat} {T : List Blk} {cs enc : List C} {ids : List Nat} (h : OwnT p T cs enc ids) : ∀ b ∈ ids, b < T.length + p := fun b hb => by
  obtain ⟨d, hd⟩ := h.own
  have := (owL_mut (hd (List.replicate p ⟨0, 0, .dead, []⟩) (by simp)) b hb).lt
  simp only [List.length_append, List.length_replicate] at this; omega
theorem OwnT.len {p : Nat} {T : List Blk} {cs enc : List C} {ids : List Nat} (h : OwnT p T cs enc ids) : cs.length = enc.length := by
  obtain ⟨d, hd⟩ := h.own
  exact (fzL_len (hd (List.replicate p ⟨0, 0, .dead, []⟩) (by simp))).symm
theorem OwnT.ext {p : Nat} {T T' : List Blk} {cs enc : List C} {ids : List Nat} (h : OwnT p T cs enc ids) (hf : ∀ i, i < T.length → i + p ∈ ids → T'[i]? = T[i]?) : OwnT p T' cs enc ids := by
  refine ⟨h.nodup, h.ge, ?_⟩
  obtain ⟨d, hd⟩ := h.own
  refine ⟨d, fun pre hp => owL_frame (hd pre hp) (fun b hb => ?_)⟩
  have h1 := h.ge b hb
  have h2 := h.lt b hb
  rw [List.getElem?_append_right (by omega), List.getElem?_append_right (by omega), hp]
  exact hf _ (by omega) (by rw [Nat.sub_add_cancel h1]; exact hb)
theorem OwnT.app {p : Nat} {T : List Blk} {cs enc : List C} {ids : List Nat} (h : OwnT p T cs enc ids) (X : List Blk) : OwnT p (T ++ X) cs enc ids := h.ext (fun i hi _ => List.getElem?_append_left hi)
theorem OwnT.lent {p : Nat} {T pre : List Blk} {cs enc : List C} {ids : List Nat} (h : OwnT p T cs enc ids) (hp : pre.length = p) : Lent (pre ++ T) (.agg cs) (.agg enc) ids := by
  obtain ⟨d, hd⟩ := h.own
  exact .agg (hd pre hp)

/-- a call that yields an owned tree -/
theorem acalls_ownT {P : Program} {f : FuncId} {args args' : List AV} {p : Nat} {pre T : List Blk} {is : List Nat} {enc : List C} {F : List C → AV} (hp : pre.length = p) (hz : Lents (pre ++ T) args args' is) (hc : ACl P f args' [] (OwnK enc F)) (hF : ∀ cs, cs.all C.flat = true → (F cs).flat = true) (hR : ∀ cs g, (F cs).ren g = F (cs.map (C.ren g))) :
    ACalls P f args (pre ++ T) [] (fun r h' => ∃ cs T' ids, r = F cs ∧ h' = pre ++ T' ∧ T.length ≤ T'.length ∧ (∀ i, i < T.length → T'[i]? = T[i]?) ∧ OwnT p T' cs enc ids ∧ ∀ b ∈ ids, T.length + p ≤ b) := by
  refine (acalls_own hz hc hF hR).mono ?_
  rintro r h' ⟨cs, d, ids, rfl, e1, e2, e3, e4, e5⟩
  obtain ⟨T', rfl, f1, f2⟩ := pre_split pre e4 e5
  have hge : ∀ b ∈ ids, T.length + p ≤ b := fun b hb => by have := (e3 b hb).1; simp only [List.length_append] at this; omega
  refine ⟨cs, T', ids, rfl, rfl, f1, f2, ⟨e2, fun b hb => by have := hge b hb; omega, d, fun pre' hp' => ?_⟩, hge⟩
  exact owL_pre (by omega) (fun _ _ => rfl) e1 (fun b hb => by have := hge b hb; omega)
/-- a call that reads owned trees -/
theorem acalls_readT {P : Program} {f : FuncId} {args args' : List AV} {h : List Blk} {is : List Nat} {v : Value} (hz : Lents h args args' is) (hc : AFn P f args' (.one (.sc v))) : ACalls P f args h [] (fun r' h' => r' = .one (.sc v) ∧ h' = h) :=
  acalls_read hz hc rfl (fun _ => rfl)
/-- a call that changes an owned tree -/
theorem acalls_changeT {P : Program} {f : FuncId} {args : List AV} {p : Nat} {pre T : List Blk} {cs enc : List C} {ids : List Nat} {v : Value} (hp : pre.length = p) (hge : ∀ b ∈ ids, p ≤ b) (hn : ids.Nodup)
    (hc : ∃ d, ACl P f args (pre ++ T) (fun r h' => r = .one (.sc v) ∧ fzL (ow h' d) cs = some (enc, ids) ∧ (pre ++ T).length ≤ h'.length ∧ ∀ b, b < (pre ++ T).length → b ∉ ids → h'[b]? = (pre ++ T)[b]?)) :
    ∃ ks, ACalls P f args (pre ++ T) ks (fun r h' => ∃ T', r = .one (.sc v) ∧ h' = pre ++ T' ∧ T.length ≤ T'.length ∧ (∀ i, i < T.length → i + p ∉ ids → T'[i]? = T[i]?) ∧ OwnT p T' cs enc ids) := by
  obtain ⟨d, hc⟩ := hc
  refine ⟨_, (acalls_full hc).mono ?_⟩
  rintro r h' ⟨rfl, e1, e2, e3⟩
  have hh : h' = pre ++ h'.drop pre.length := by
    apply List.ext_getElem?
    intro i
    by_cases hi : i < pre.length
    · rw [e3 i (by simp only [List.length_append]; omega) (fun hm => by have := hge i hm; omega), List.getElem?_append_left hi, List.getElem?_append_left hi]
    · rw [List.getElem?_append_right (by omega), List.getElem?_drop]; congr 1; omega
  refine ⟨h'.drop pre.length, rfl, hh, by simp only [List.length_append, List.length_drop] at *; omega, fun i hi hm => ?_, hn, hge, d, fun pre' hp' => ?_⟩
  · rw [List.getElem?_drop, e3 _ (by simp only [List.length_append]; omega) (by rw [hp, Nat.add_comm]; exact hm), List.getElem?_append_right (by omega)]
    congr 1; omega
  · rw [hh] at e1
    exact owL_pre (by omega) (fun _ _ => rfl) e1 (fun b hb => by have := hge b hb; omega)
theorem wm_at {P : Program} {N : Nat} {R : ASt → Prop} {c : MC} {k : List Item} {f : FuncId} {args : List AV} {o : Oper} {l : List Oper} {U : List Nat} {ok : Bool} {s : ASt} {ks : List Nat} {K' : AV → List Blk → Prop} {h0 : List Blk} (hc : ACalls P f args h0 ks K') (hok : ((ok && ks.all c.ms.contains) || decide (l.length < c.f)) = true)
    (hmut : c.ms.all (fun b => match c.h0[b]? with | some k => k.st.isMut | none => false) = true) (hs : h0 = s.h)
    (hK : ∀ r h', K' r h' → WM P N c R k (mrun P c l (addU o.dst U) (ok && ks.all c.ms.contains) (ASt.put ⟨s.n, s.t, h'⟩ o.dst r))) : WM P N c R k (.call f args o l U ok s) := by
  subst hs
  exact wm_any hc hok hmut hK
/-- a list of terms' marks are few -/
theorem _root_.Go.Proofs.Grad.Ty.sizes_kids (t : Ty) : Ty.sizes t.kids < t.size := by cases t; simp only [Ty.size, Ty.kids]; omega
end Go.Proofs.Sh
namespace Go.Proofs.Grad
mutual
theorem Tm.mw_le : ∀ t : Tm, t.mw ≤ 6 * t.size
  | .mk k n m t f l a => by
    have h1 := Ty.sizes_kids t; have h2 := Ty.sizes_kids f; have h3 := Tm.mws_le a
    simp only [Tm.mw, Tm.size]; omega
theorem Tm.mws_le : ∀ l : List Tm, Tm.mws l ≤ 6 * Tm.sizes l
  | [] => Nat.le_refl _
  | t :: l => by have h1 := Tm.mw_le t; have h2 := Tm.mws_le l; simp only [Tm.mws, Tm.sizes]; omega
end
end Go.Proofs.Grad
