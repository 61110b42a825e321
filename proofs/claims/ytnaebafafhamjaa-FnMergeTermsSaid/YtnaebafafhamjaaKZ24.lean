/- Texts of the proof, one behind another. -/
import Derived.Test.YtnaebafafhamjaaRows
import Derived.ProofKit
import Derived.OpenShut
import Derived.Test.YtnaebafafhamjaaKZ8
import Derived.Test.YtnaebafafhamjaaKZ10
import Derived.Test.YtnaebafafhamjaaKZ11
import Derived.Test.YtnaebafafhamjaaKZ12
import Derived.Test.YtnaebafafhamjaaKZ15
import Derived.Test.YtnaebafafhamjaaKZ21
import Derived.Test.YtnaebafafhamjaaKZ22
import Derived.Test.YtnaebafafhamjaaKZ23
set_option linter.unusedSimpArgs false
set_option linter.unusedVariables false
/- Merged terms, in the program and in the reference. On shadows. -/
namespace Go.Proofs.Grad
/-- when two terms are merged -/
noncomputable def mrgB (a b : Tm) : Bool := a.termV && (b.termV && a.alk Ty.cons b)
theorem mixM_get {L M : List T} (h : L.length = M.length) (k : Nat) (hk : k < L.length) : (mixK (zipM L M) L k)[k]? = some L[k] := mixK_get (zipM_length h) hk
theorem mixM_set {L M : List T} (h : L.length = M.length) (k : Nat) (hk : k < L.length) : (mixK (zipM L M) L k).set k (L[k].meet (M[k]'(by omega))) = mixK (zipM L M) L (k + 1) := by
  rw [← zipM_get h hk]; exact mixK_set (zipM_length h) hk
end Go.Proofs.Grad
namespace Go.Proofs.Ytnaebafafhamjaa
open Go.RowKit Go.Proofs.Sh Go.Proofs.Grad
set_option maxRecDepth 100000
set_option maxHeartbeats 16000000
theorem sTmSame (n : Nat) (hn : n ≤ 4611686018427387904) : ∀ a b : Tm, a.size < n → AFn Try.prog 42 [.agg (teC a), .agg (teC b)] (.one (.sc (.bool (a.same b)))) := by
  induction n with
  | zero => intro a b h; omega
  | succ n ih =>
    intro a b h
    have hl := telen_lt a
    have h1 := sSame 4611686018427387904 (by omega) a.type b.type (by cases a; simp only [Tm.size, Tm.type] at *; omega)
    have h2 := sSame 4611686018427387904 (by omega) a.frm b.frm (by cases a; simp only [Tm.size, Tm.frm] at *; omega)
    have e : a.same b = (a.kind == b.kind && (a.name.toList == b.name.toList && (a.num == b.num && (a.type.same b.type && (a.frm.same b.frm && (a.label == b.label && teall2 Tm.same a.kids b.kids)))))) := by
      cases a; cases b; rw [← tesames_all2]; simp only [Tm.same, Tm.kind, Tm.name, Tm.num, Tm.type, Tm.frm, Tm.label, Tm.kids, Bool.and_assoc]
    rw [e]
    by_cases hall : (a.kind == b.kind) = true ∧ (a.name.toList == b.name.toList) = true ∧ (a.num == b.num) = true ∧ a.type.same b.type = true ∧ a.frm.same b.frm = true ∧ (a.label == b.label) = true ∧ a.kids.length = b.kids.length
    · obtain ⟨b1, b2, b3, b4, b5, b6, b7⟩ := hall
      have b8 : ((a.kids.length : Int) == (b.kids.length : Int)) = true := by simp; omega
      rw [b4] at h1
      rw [b5] at h2
      rw [b1, b2, b3, b4, b5, b6]
      simp only [Bool.true_and]
      refine fn_in ?_; refine acl_in Try.func42 rfl isfn_42 (Nat.le_of_ble_eq_true rfl) (fun R hR => ?_); rw [Try.results42] at hR; refine wg_run ?_; (simp only [Try.f42, go_sem])
      repeat' (first | (first | (simp only [go_sem, int_bne, b1, b2, b3, b6, b8]) | (((first | apply sp1 | apply sp2 | apply sp3 | apply sp4 | apply sp5 | apply sp6 | apply sp7) <;> intro hb) <;> (simp only [go_sem, hb, int_bne, b1, b2, b3, b6, b8])) | ((first | apply wm_done | apply wt_done | apply wg_run | refine fk ?_ ?_) <;> (simp only [go_sem, int_bne, b1, b2, b3, b6, b8]))) | (first | refine cdq ?_ (hc := h1) | refine cmq ?_ (hc := h1) | refine ctq ?_ (hc := h1)); (simp only [go_sem]) | (first | refine cdq ?_ (hc := h2) | refine cmq ?_ (hc := h2) | refine ctq ?_ (hc := h2)); (simp only [go_sem]) | fail)
      refine wd_for [2, 3, 5] (fun k => [.one (.ptr 9 0 0 0), .one (.ptr 9 1 0 0), .one (.sc (.int .i64 (k : Nat)))]) (fun _ => [⟨9, 28, .mut, [teC a]⟩, ⟨9, 28, .mut, [teC b]⟩])
        (fun k => k ≤ a.kids.length ∧ teall2 Tm.same (a.kids.drop k) (b.kids.drop k) = teall2 Tm.same a.kids b.kids) (fun k => a.kids.length - k) 0 ⟨Nat.zero_le _, rfl⟩ (hat [0, 1] (hI := ⟨rfl, rfl⟩)) ?_
      rintro k ⟨hk0, hs⟩ G hG
      refine wg_run ?_
      (simp only [go_sem])
      ((first | apply sp1 | apply sp2 | apply sp3 | apply sp4 | apply sp5 | apply sp6 | apply sp7) <;> intro hb) <;> (simp only [go_sem, hb])
      · have hk1 : k < a.kids.length := by have := of_decide_eq_true hb; omega
        have hk2 : decide ((k : Int) < (b.kids.length : Int)) = true := by simp; omega
        have hw1 := wrap_succ hk1 (by omega)
        rw [teall2_kid hk1 (by omega)] at hs
        have hc := ih (by omega) (teKid a.kids k) (teKid b.kids k) (by have := teKid_lt hk1; omega)
        repeat' (first | (first | (simp only [go_sem, hb, hk2, hw1]) | (((first | apply sp1 | apply sp2 | apply sp3 | apply sp4 | apply sp5 | apply sp6 | apply sp7) <;> intro hb) <;> (simp only [go_sem, hb, hb, hk2, hw1])) | ((first | apply wm_done | apply wt_done | apply wg_run | refine fk ?_ ?_) <;> (simp only [go_sem, hb, hk2, hw1]))) | ((first | refine mxq6 [] ?_ | refine mxq5 [] ?_ | refine mxq4 [] ?_ | refine mxq3 [] ?_ | refine mxq2 [] ?_ | refine mxq1 [] ?_ | refine mxq0 [] ?_ | fail); (simp only [go_sem, hb, hk2])) | (first | refine cdq ?_ (hc := hc) | refine cmq ?_ (hc := hc) | refine ctq ?_ (hc := hc)); (simp only [go_sem]) | fail)
        · exact hG (k + 1) _ _ ⟨by omega, by simpa [hb] using hs⟩ (by omega) (hat [0, 1] (hI := ⟨rfl, rfl⟩))
        · (refine hR _ (rat [] (hK := ⟨?_, rfl⟩)))
          simpa [hb] using hs
      · have hk1 : ¬ k < a.kids.length := by have := of_decide_eq_false hb; omega
        rw [teall2_end hk1 b7] at hs
        (refine hR _ (rat [] (hK := ⟨?_, rfl⟩)))
        rw [← hs]
    · have hf : (a.kind == b.kind && (a.name.toList == b.name.toList && (a.num == b.num && (a.type.same b.type && (a.frm.same b.frm && (a.label == b.label && teall2 Tm.same a.kids b.kids)))))) = false := by
        rw [Bool.eq_false_iff]
        intro hx
        simp only [Bool.and_eq_true] at hx
        refine hall ⟨hx.1, hx.2.1, hx.2.2.1, hx.2.2.2.1, hx.2.2.2.2.1, hx.2.2.2.2.2.1, ?_⟩
        refine Decidable.byContradiction fun hne => ?_
        have := hx.2.2.2.2.2.2
        rw [teall2_len hne] at this; cases this
      rw [hf]
      cases b1 : (a.kind == b.kind)
      · refine fn_in ?_; refine acl_in Try.func42 rfl isfn_42 (Nat.le_of_ble_eq_true rfl) (fun R hR => ?_); rw [Try.results42] at hR; refine wg_run ?_; (simp only [Try.f42, go_sem])
        repeat' (first | (first | (simp only [go_sem, int_bne, b1]) | (((first | apply sp1 | apply sp2 | apply sp3 | apply sp4 | apply sp5 | apply sp6 | apply sp7) <;> intro hb) <;> (simp only [go_sem, hb, int_bne, b1])) | ((first | apply wm_done | apply wt_done | apply wg_run | refine fk ?_ ?_) <;> (simp only [go_sem, int_bne, b1]))) | fail)
        (refine hR _ (rat [] (hK := ⟨rfl, rfl⟩)))
      · cases b2 : (a.name.toList == b.name.toList)
        · refine fn_in ?_; refine acl_in Try.func42 rfl isfn_42 (Nat.le_of_ble_eq_true rfl) (fun R hR => ?_); rw [Try.results42] at hR; refine wg_run ?_; (simp only [Try.f42, go_sem])
          repeat' (first | (first | (simp only [go_sem, int_bne, b1, b2]) | (((first | apply sp1 | apply sp2 | apply sp3 | apply sp4 | apply sp5 | apply sp6 | apply sp7) <;> intro hb) <;> (simp only [go_sem, hb, int_bne, b1, b2])) | ((first | apply wm_done | apply wt_done | apply wg_run | refine fk ?_ ?_) <;> (simp only [go_sem, int_bne, b1, b2]))) | fail)
          (refine hR _ (rat [] (hK := ⟨rfl, rfl⟩)))
        · cases b3 : (a.num == b.num)
          · refine fn_in ?_; refine acl_in Try.func42 rfl isfn_42 (Nat.le_of_ble_eq_true rfl) (fun R hR => ?_); rw [Try.results42] at hR; refine wg_run ?_; (simp only [Try.f42, go_sem])
            repeat' (first | (first | (simp only [go_sem, int_bne, b1, b2, b3]) | (((first | apply sp1 | apply sp2 | apply sp3 | apply sp4 | apply sp5 | apply sp6 | apply sp7) <;> intro hb) <;> (simp only [go_sem, hb, int_bne, b1, b2, b3])) | ((first | apply wm_done | apply wt_done | apply wg_run | refine fk ?_ ?_) <;> (simp only [go_sem, int_bne, b1, b2, b3]))) | fail)
            (refine hR _ (rat [] (hK := ⟨rfl, rfl⟩)))
          · cases b6 : (a.label == b.label)
            · refine fn_in ?_; refine acl_in Try.func42 rfl isfn_42 (Nat.le_of_ble_eq_true rfl) (fun R hR => ?_); rw [Try.results42] at hR; refine wg_run ?_; (simp only [Try.f42, go_sem])
              repeat' (first | (first | (simp only [go_sem, int_bne, b1, b2, b3, b6]) | (((first | apply sp1 | apply sp2 | apply sp3 | apply sp4 | apply sp5 | apply sp6 | apply sp7) <;> intro hb) <;> (simp only [go_sem, hb, int_bne, b1, b2, b3, b6])) | ((first | apply wm_done | apply wt_done | apply wg_run | refine fk ?_ ?_) <;> (simp only [go_sem, int_bne, b1, b2, b3, b6]))) | fail)
              (refine hR _ (rat [] (hK := ⟨rfl, rfl⟩)))
            · by_cases b7 : a.kids.length = b.kids.length
              · have b8 : ((a.kids.length : Int) == (b.kids.length : Int)) = true := by simp; omega
                cases b4 : a.type.same b.type
                · rw [b4] at h1
                  refine fn_in ?_; refine acl_in Try.func42 rfl isfn_42 (Nat.le_of_ble_eq_true rfl) (fun R hR => ?_); rw [Try.results42] at hR; refine wg_run ?_; (simp only [Try.f42, go_sem])
                  repeat' (first | (first | (simp only [go_sem, int_bne, b1, b2, b3, b6, b8]) | (((first | apply sp1 | apply sp2 | apply sp3 | apply sp4 | apply sp5 | apply sp6 | apply sp7) <;> intro hb) <;> (simp only [go_sem, hb, int_bne, b1, b2, b3, b6, b8])) | ((first | apply wm_done | apply wt_done | apply wg_run | refine fk ?_ ?_) <;> (simp only [go_sem, int_bne, b1, b2, b3, b6, b8]))) | (first | refine cdq ?_ (hc := h1) | refine cmq ?_ (hc := h1) | refine ctq ?_ (hc := h1)); (simp only [go_sem]) | fail)
                  (refine hR _ (rat [] (hK := ⟨rfl, rfl⟩)))
                · have b5 : a.frm.same b.frm = false := by
                    cases b5 : a.frm.same b.frm with
                    | false => rfl
                    | true => exact absurd ⟨b1, b2, b3, b4, b5, b6, b7⟩ hall
                  rw [b4] at h1
                  rw [b5] at h2
                  refine fn_in ?_; refine acl_in Try.func42 rfl isfn_42 (Nat.le_of_ble_eq_true rfl) (fun R hR => ?_); rw [Try.results42] at hR; refine wg_run ?_; (simp only [Try.f42, go_sem])
                  repeat' (first | (first | (simp only [go_sem, int_bne, b1, b2, b3, b6, b8]) | (((first | apply sp1 | apply sp2 | apply sp3 | apply sp4 | apply sp5 | apply sp6 | apply sp7) <;> intro hb) <;> (simp only [go_sem, hb, int_bne, b1, b2, b3, b6, b8])) | ((first | apply wm_done | apply wt_done | apply wg_run | refine fk ?_ ?_) <;> (simp only [go_sem, int_bne, b1, b2, b3, b6, b8]))) | (first | refine cdq ?_ (hc := h1) | refine cmq ?_ (hc := h1) | refine ctq ?_ (hc := h1)); (simp only [go_sem]) | (first | refine cdq ?_ (hc := h2) | refine cmq ?_ (hc := h2) | refine ctq ?_ (hc := h2)); (simp only [go_sem]) | fail)
                  (refine hR _ (rat [] (hK := ⟨rfl, rfl⟩)))
              · have b8 : ((a.kids.length : Int) == (b.kids.length : Int)) = false := by simp; omega
                refine fn_in ?_; refine acl_in Try.func42 rfl isfn_42 (Nat.le_of_ble_eq_true rfl) (fun R hR => ?_); rw [Try.results42] at hR; refine wg_run ?_; (simp only [Try.f42, go_sem])
                repeat' (first | (first | (simp only [go_sem, int_bne, b1, b2, b3, b6, b8]) | (((first | apply sp1 | apply sp2 | apply sp3 | apply sp4 | apply sp5 | apply sp6 | apply sp7) <;> intro hb) <;> (simp only [go_sem, hb, int_bne, b1, b2, b3, b6, b8])) | ((first | apply wm_done | apply wt_done | apply wg_run | refine fk ?_ ?_) <;> (simp only [go_sem, int_bne, b1, b2, b3, b6, b8]))) | fail)
                (refine hR _ (rat [] (hK := ⟨rfl, rfl⟩)))
theorem iMergeBad (a b : Tm) (ha : a.size < 4611686018427387904) (h : mrgB a b = false) : AFn Try.prog 9 [.agg (teC a), .agg (teC b)] (.tup [.agg (teC tm0), .one (.sc (.bool false))]) := by
  have h1 := iTermV a
  have h2 := iTermV b
  have h3 := iAlike 36 Ty.cons (fun x y hx => iCons _ (Nat.le_refl _) x y hx) _ (Nat.le_refl _) a b ha
  unfold mrgB at h
  simp only [tm0, noTy]
  cases e1 : a.termV
  · rw [e1] at h1
    refine fn_in ?_; refine acl_in Try.func9 rfl isfn_9 (Nat.le_of_ble_eq_true rfl) (fun R hR => ?_); rw [Try.results9] at hR; refine wg_run ?_; (simp only [Try.f9, go_sem])
    repeat' (first | (first | (((first | apply sp1 | apply sp2 | apply sp3 | apply sp4 | apply sp5 | apply sp6 | apply sp7) <;> intro hb) <;> (simp only [go_sem, hb])) | ((first | apply wm_done | apply wt_done | apply wg_run | refine fk ?_ ?_) <;> (simp only [go_sem]))) | (first | refine cdq ?_ (hc := h1) | refine cmq ?_ (hc := h1) | refine ctq ?_ (hc := h1)); (simp only [go_sem]) | fail)
    (refine hR _ (rat [] (hK := ⟨rfl, rfl⟩)))
  · cases e2 : b.termV
    · rw [e1] at h1
      rw [e2] at h2
      refine fn_in ?_; refine acl_in Try.func9 rfl isfn_9 (Nat.le_of_ble_eq_true rfl) (fun R hR => ?_); rw [Try.results9] at hR; refine wg_run ?_; (simp only [Try.f9, go_sem])
      repeat' (first | (first | (((first | apply sp1 | apply sp2 | apply sp3 | apply sp4 | apply sp5 | apply sp6 | apply sp7) <;> intro hb) <;> (simp only [go_sem, hb])) | ((first | apply wm_done | apply wt_done | apply wg_run | refine fk ?_ ?_) <;> (simp only [go_sem]))) | (first | refine cdq ?_ (hc := h1) | refine cmq ?_ (hc := h1) | refine ctq ?_ (hc := h1)); (simp only [go_sem]) | (first | refine cdq ?_ (hc := h2) | refine cmq ?_ (hc := h2) | refine ctq ?_ (hc := h2)); (simp only [go_sem]) | fail)
      (refine hR _ (rat [] (hK := ⟨rfl, rfl⟩)))
    · rw [e1] at h1
      rw [e2] at h2
      rw [e1, e2, Bool.true_and, Bool.true_and] at h
      rw [h] at h3
      refine fn_in ?_; refine acl_in Try.func9 rfl isfn_9 (Nat.le_of_ble_eq_true rfl) (fun R hR => ?_); rw [Try.results9] at hR; refine wg_run ?_; (simp only [Try.f9, go_sem])
      repeat' (first | (first | (((first | apply sp1 | apply sp2 | apply sp3 | apply sp4 | apply sp5 | apply sp6 | apply sp7) <;> intro hb) <;> (simp only [go_sem, hb])) | ((first | apply wm_done | apply wt_done | apply wg_run | refine fk ?_ ?_) <;> (simp only [go_sem]))) | (first | refine cdq ?_ (hc := h1) | refine cmq ?_ (hc := h1) | refine ctq ?_ (hc := h1)); (simp only [go_sem]) | (first | refine cdq ?_ (hc := h2) | refine cmq ?_ (hc := h2) | refine ctq ?_ (hc := h2)); (simp only [go_sem]) | (first | refine cdq ?_ (hc := h3) | refine cmq ?_ (hc := h3) | refine ctq ?_ (hc := h3)); (simp only [go_sem]) | fail)
      (refine hR _ (rat [] (hK := ⟨rfl, rfl⟩)))
theorem iMergeE (a b : E) (ha : a.okT = true) (hb : b.okT = true) (h : a.tm.alk Ty.cons b.tm = true) : AFn Try.prog 9 [.agg (teC a.tm), .agg (teC b.tm)] (.tup [.agg (teC (a.mrg b).tm), .one (.sc (.bool true))]) := by
  have ha' := ha; have hb' := hb
  simp only [E.okT, Bool.and_eq_true, decide_eq_true_eq] at ha' hb'
  have hza := E.size_okT ha
  have hzb := E.size_okT hb
  have h1 := iTermV a.tm
  have h2 := iTermV b.tm
  rw [E.termV_tm, ha] at h1
  rw [E.termV_tm, hb] at h2
  have h3 := iAlike 36 Ty.cons (fun x y hx => iCons _ (Nat.le_refl _) x y hx) _ (Nat.le_refl _) a.tm b.tm (by omega)
  rw [h] at h3
  obtain ⟨g1, g2, g3⟩ := E.alk_cons ha'.2.1 hb'.2.1 h
  have hda := E.tl_depth a ha'.1 ha'.2.1
  have hdb := E.tl_depth b hb'.1 hb'.2.1
  have hc := iTypesO 100000 (by omega) a.tm (by omega)
  have hc2 := iTypes 100000 (by omega) b.tm (by omega)
  rw [E.types_tm a ha'.2.1] at hc
  rw [E.types_tm b hb'.2.1] at hc2
  have hla := a.tl_length
  have hlb := b.tl_length
  have hn30 := nt30 ha
  have hret := iRetyped a (zipM a.tl b.tl) ha'.1 ha'.2.1 (zipM_depth hda hdb) (by rw [zipM_length (by omega)]; omega)
  rw [show (a.wt (zipM a.tl b.tl)).1 = a.mrg b from rfl] at hret
  have hown := iOwn (a.mrg b) (by have := E.mrg_okT ha hb; simp only [E.okT, Bool.and_eq_true] at this; exact this.1)
  have hLM : a.tl.length = b.tl.length := by omega
  have hme := fun (k : Nat) (h1 : k < a.tl.length) (h2 : k < b.tl.length) => iMeet a.tl[k] b.tl[k] (hda _ (List.getElem_mem _)) (hdb _ (List.getElem_mem _)) (all2P_get g3 k h1 h2)
  generalize (a.wt (zipM a.tl b.tl)).2 = L2 at hret
  rw [← g2, ← hlb] at hn30
  clear g1 g2 hda hdb hlb
  generalize (a.mrg b).tm = t2 at *
  generalize b.tm = tb at *
  generalize a.tm = ta at *
  generalize a.tl = L at *
  generalize b.tl = M at *
  refine fn_in ?_; refine acl_in Try.func9 rfl isfn_9 (Nat.le_of_ble_eq_true rfl) (fun R hR => ?_); rw [Try.results9] at hR; refine wg_run ?_; (simp only [Try.f9, go_sem])
  repeat' (first | (first | (((first | apply sp1 | apply sp2 | apply sp3 | apply sp4 | apply sp5 | apply sp6 | apply sp7) <;> intro hb) <;> (simp only [go_sem, hb])) | ((first | apply wm_done | apply wt_done | apply wg_run | refine fk ?_ ?_) <;> (simp only [go_sem]))) | (first | refine cdq ?_ (hc := h1) | refine cmq ?_ (hc := h1) | refine ctq ?_ (hc := h1)); (simp only [go_sem]) | (first | refine cdq ?_ (hc := h2) | refine cmq ?_ (hc := h2) | refine ctq ?_ (hc := h2)); (simp only [go_sem]) | (first | refine cdq ?_ (hc := h3) | refine cmq ?_ (hc := h3) | refine ctq ?_ (hc := h3)); (simp only [go_sem]) | fail)
  ((first | refine kdq [] ?_ (hc := hc) | refine kmq [] ?_ (hc := hc) | refine ktq [] ?_ (hc := hc)); rintro _ _ (⟨hL0, rfl, rfl⟩ | ⟨rfl, rfl, hL0⟩) <;> (simp only [go_sem]))
  · have hM0 : M = [] := List.eq_nil_of_length_eq_zero (by rw [← hLM, List.map_eq_nil_iff.1 hL0]; rfl)
    have h0 : L = [] := List.map_eq_nil_iff.1 hL0
    subst hM0
    subst h0
    have hb0 : zipM [] [] = [] := rfl
    rw [hb0] at hret
    simp only [List.map_nil, tyR] at hc2 hret
    repeat' (first | (first | (((first | apply sp1 | apply sp2 | apply sp3 | apply sp4 | apply sp5 | apply sp6 | apply sp7) <;> intro hb) <;> (simp only [go_sem, hb])) | ((first | apply wm_done | apply wt_done | apply wg_run | refine fk ?_ ?_) <;> (simp only [go_sem]))) | (first | refine cdq ?_ (hc := hc2) | refine cmq ?_ (hc := hc2) | refine ctq ?_ (hc := hc2)); (simp only [go_sem]) | (first | (refine wl_next (wg_run ?_); (simp only [go_sem])) | refine wd_rounds 6 ?_) | (first | refine cdq ?_ (hc := hret) | refine cmq ?_ (hc := hret) | refine ctq ?_ (hc := hret)); (simp only [go_sem]) | (first | refine cdq ?_ (hc := hown) | refine cmq ?_ (hc := hown) | refine ctq ?_ (hc := hown)); (simp only [go_sem]) | ((first | refine mxq6 [] ?_ | refine mxq5 [] ?_ | refine mxq4 [] ?_ | refine mxq3 [] ?_ | refine mxq2 [] ?_ | refine mxq1 [] ?_ | refine mxq0 [] ?_ | fail); (simp only [go_sem])) | fail)
    (refine hR _ (rat [] (hK := ⟨rfl, rfl⟩)))
  · simp only [List.length_map] at hL0 ⊢
    repeat' (first | (first | (((first | apply sp1 | apply sp2 | apply sp3 | apply sp4 | apply sp5 | apply sp6 | apply sp7) <;> intro hb) <;> (simp only [go_sem, hb])) | ((first | apply wm_done | apply wt_done | apply wg_run | refine fk ?_ ?_) <;> (simp only [go_sem]))) | (first | refine cdq ?_ (hc := hc2) | refine cmq ?_ (hc := hc2) | refine ctq ?_ (hc := hc2)); (simp only [go_sem]) | fail)
    refine wd_for [2, 3, 4, 6, 29, 30, 31] (fun k => [.one (.ptr 9 0 0 0), .one (.ptr 9 1 0 0), .one (.ptr 9 2 0 0), .one (.row 2 3 L.length), .one (.sl (tyR (M.map T.ty))), .one (.sc (.int .i64 (M.length : Nat))), .one (.sc (.int .i64 (k : Nat)))])
      (fun k => [⟨9, 28, .mut, [teC ta]⟩, ⟨9, 28, .mut, [teC tb]⟩, ⟨9, 28, .mut, [[.sc (.int .i64 0), .sc (.string { data := { toList := [] } }), .sc (.int .i64 0), .sc (.int .i64 0), .sc (.slice none 0 0), .sc (.int .i64 0), .sc (.slice none 0 0), .sc (.int .i64 0), .sc (.slice none 0 0)]]⟩, ⟨2, 25, .mut, tyR ((mixK (zipM L M) L k).map T.ty)⟩])
      (fun k => k ≤ L.length) (fun k => L.length - k) 0 (Nat.zero_le _) (head_at [0, 1, 2, 3] (by (simp only [go_sem]); first | done | rfl) (by (simp only [go_sem, List.length_map]); first | done | rfl) ⟨rfl, by rw [mixK_zero]⟩) ?_
    rintro k hk G hG
    refine wg_run ?_
    by_cases hk1 : k < L.length
    · have d1 : decide ((k : Int) < (M.length : Nat)) = true := by simp; omega
      have d1b : decide ((k : Int) < (((M.map T.ty).length : Nat) : Int)) = true := by simp; omega
      have hin : decide (k < L.length) = true := by simpa using hk1
      have hw1 := wrap_succ hk1 (by omega)
      have hkM : k < M.length := by omega
      have hme1 := hme k hk1 hkM
      have hset := tyRset ((mixK (zipM L M) L k).map T.ty) k (L[k].meet M[k]).ty
      rw [← List.map_set, mixM_set hLM k hk1] at hset
      have hg : (tyR ((mixK (zipM L M) L k).map T.ty))[k]? = some (tyC L[k].ty) := by rw [tyR_get, List.getElem?_map, mixM_get hLM k hk1]; rfl
      have hkd : kid (M.map T.ty) k = M[k].ty := by rw [kid_eq (by simpa using hkM)]; simp
      have hg2 : (tyR (M.map T.ty))[k]? = some (tyC M[k].ty) := by rw [tyR_get, List.getElem?_map, List.getElem?_eq_getElem hkM]; rfl
      generalize L[k].meet M[k] = u3 at *
      generalize L[k] = u1 at *
      generalize M[k] = u2 at *
      rw [tyC_eq u1.ty] at hg hme1
      rw [tyC_eq u3.ty] at hset hme1
      clear hme
      repeat' (first | (first | (simp only [go_sem, d1, d1b, hin, hw1, hg, hg2, hkd, hset]) | (((first | apply sp1 | apply sp2 | apply sp3 | apply sp4 | apply sp5 | apply sp6 | apply sp7) <;> intro hb) <;> (simp only [go_sem, hb, d1, d1b, hin, hw1, hg, hg2, hkd, hset])) | ((first | apply wm_done | apply wt_done | apply wg_run | refine fk ?_ ?_) <;> (simp only [go_sem, d1, d1b, hin, hw1, hg, hg2, hkd, hset]))) | (first | refine cdq ?_ (hc := hme1) | refine cmq ?_ (hc := hme1) | refine ctq ?_ (hc := hme1)); (simp only [go_sem]) | ((first | refine mxq6 [] ?_ | refine mxq5 [] ?_ | refine mxq4 [] ?_ | refine mxq3 [] ?_ | refine mxq2 [] ?_ | refine mxq1 [] ?_ | refine mxq0 [] ?_ | fail); (simp only [go_sem, d1, d1b, hin, hw1, hg, hg2, hkd, hset])) | fail)
      all_goals exact hG (k + 1) _ _ (by omega) (by omega) (hat [0, 1, 2, 3] (hI := ⟨rfl, rfl⟩))
    · have d1 : decide ((k : Int) < (M.length : Nat)) = false := by simp; omega
      have hb0 : mixK (zipM L M) L k = zipM L M := mixK_all (zipM_length hLM) (by omega)
      have hlb : (zipM L M).length = L.length := zipM_length hLM
      have htk : (tyR ((zipM L M).map T.ty)).take L.length = tyR ((zipM L M).map T.ty) := List.take_of_length_le (by rw [tyR_length, List.length_map, hlb]; exact Nat.le_refl _)
      rw [hb0]
      clear hG hme
      repeat' (first | (first | (simp only [go_sem, d1, hlb, htk, List.length_map]) | (((first | apply sp1 | apply sp2 | apply sp3 | apply sp4 | apply sp5 | apply sp6 | apply sp7) <;> intro hb) <;> (simp only [go_sem, hb, d1, hlb, htk, List.length_map])) | ((first | apply wm_done | apply wt_done | apply wg_run | refine fk ?_ ?_) <;> (simp only [go_sem, d1, hlb, htk, List.length_map]))) | (first | refine cd (hp := (by (simp only [go_sem, hlb, htk, List.length_map]); first | done | rfl)) (hc := hret) (hK := ?_) | refine cm (hp := (by (simp only [go_sem, hlb, htk, List.length_map]); first | done | rfl)) (hc := hret) (hK := ?_) | refine ct (hp := (by (simp only [go_sem, hlb, htk, List.length_map]); first | done | rfl)) (hc := hret) (hK := ?_)); (simp only [go_sem, hlb, htk, List.length_map]) | (first | refine cdq ?_ (hc := hown) | refine cmq ?_ (hc := hown) | refine ctq ?_ (hc := hown)); (simp only [go_sem]) | ((first | refine mxq6 [] ?_ | refine mxq5 [] ?_ | refine mxq4 [] ?_ | refine mxq3 [] ?_ | refine mxq2 [] ?_ | refine mxq1 [] ?_ | refine mxq0 [] ?_ | fail); (simp only [go_sem, d1, hlb, htk, List.length_map])) | fail)
      (refine hR _ (rat [] (hK := ⟨rfl, rfl⟩)))
theorem sMergeInv (a b : Tm) (ha : a.size < 1000000000) (hb : b.size < 1000000000) (h : (a.termV && b.termV) = false) : AFn Try.prog 10 [.agg (teC a), .agg (teC b)] (.tup [.agg (teC tm0), .one (.sc (.bool false))]) := by
  have key : ∀ x : Tm, x.size < 1000000000 → ∃ y : Tm, AFn Try.prog 41 [.agg (teC x)] (.tup [.agg (teC y), .one (.sc (.bool x.termV))]) := by
    intro x hx
    cases e : x.termV with
    | false => exact ⟨_, sEraseBad x e hx⟩
    | true => obtain ⟨f, rfl, ho⟩ := Tm.termV_E e; exact ⟨_, sErase f ho⟩
  obtain ⟨y1, h1⟩ := key a ha
  obtain ⟨y2, h2⟩ := key b hb
  simp only [tm0, noTy]
  cases e1 : a.termV
  · rw [e1] at h1
    refine fn_in ?_; refine acl_in Try.func10 rfl isfn_10 (Nat.le_of_ble_eq_true rfl) (fun R hR => ?_); rw [Try.results10] at hR; refine wg_run ?_; (simp only [Try.f10, go_sem])
    repeat' (first | (first | (((first | apply sp1 | apply sp2 | apply sp3 | apply sp4 | apply sp5 | apply sp6 | apply sp7) <;> intro hb) <;> (simp only [go_sem, hb])) | ((first | apply wm_done | apply wt_done | apply wg_run | refine fk ?_ ?_) <;> (simp only [go_sem]))) | (first | refine cdq ?_ (hc := h1) | refine cmq ?_ (hc := h1) | refine ctq ?_ (hc := h1)); (simp only [go_sem]) | (first | refine cdq ?_ (hc := h2) | refine cmq ?_ (hc := h2) | refine ctq ?_ (hc := h2)); (simp only [go_sem]) | fail)
    all_goals (refine hR _ (rat [] (hK := ⟨rfl, rfl⟩)))
  · rw [e1, Bool.true_and] at h
    rw [e1] at h1
    rw [h] at h2
    refine fn_in ?_; refine acl_in Try.func10 rfl isfn_10 (Nat.le_of_ble_eq_true rfl) (fun R hR => ?_); rw [Try.results10] at hR; refine wg_run ?_; (simp only [Try.f10, go_sem])
    repeat' (first | (first | (((first | apply sp1 | apply sp2 | apply sp3 | apply sp4 | apply sp5 | apply sp6 | apply sp7) <;> intro hb) <;> (simp only [go_sem, hb])) | ((first | apply wm_done | apply wt_done | apply wg_run | refine fk ?_ ?_) <;> (simp only [go_sem]))) | (first | refine cdq ?_ (hc := h1) | refine cmq ?_ (hc := h1) | refine ctq ?_ (hc := h1)); (simp only [go_sem]) | (first | refine cdq ?_ (hc := h2) | refine cmq ?_ (hc := h2) | refine ctq ?_ (hc := h2)); (simp only [go_sem]) | fail)
    all_goals (refine hR _ (rat [] (hK := ⟨rfl, rfl⟩)))
theorem sMergeDif (a b : E) (ha : a.okT = true) (hb : b.okT = true) (h : (a.mapE E.era1).tm.same (b.mapE E.era1).tm = false) : AFn Try.prog 10 [.agg (teC a.tm), .agg (teC b.tm)] (.tup [.agg (teC tm0), .one (.sc (.bool false))]) := by
  have h1 := sErase a ha
  have h2 := sErase b hb
  have hz := E.size_okT (E.era_okT ha)
  have h3 := sTmSame 4611686018427387904 (by omega) (a.mapE E.era1).tm (b.mapE E.era1).tm (by omega)
  rw [h] at h3
  simp only [tm0, noTy]
  refine fn_in ?_; refine acl_in Try.func10 rfl isfn_10 (Nat.le_of_ble_eq_true rfl) (fun R hR => ?_); rw [Try.results10] at hR; refine wg_run ?_; (simp only [Try.f10, go_sem])
  repeat' (first | (first | (((first | apply sp1 | apply sp2 | apply sp3 | apply sp4 | apply sp5 | apply sp6 | apply sp7) <;> intro hb) <;> (simp only [go_sem, hb])) | ((first | apply wm_done | apply wt_done | apply wg_run | refine fk ?_ ?_) <;> (simp only [go_sem]))) | (first | refine cdq ?_ (hc := h1) | refine cmq ?_ (hc := h1) | refine ctq ?_ (hc := h1)); (simp only [go_sem]) | (first | refine cdq ?_ (hc := h2) | refine cmq ?_ (hc := h2) | refine ctq ?_ (hc := h2)); (simp only [go_sem]) | (first | refine cdq ?_ (hc := h3) | refine cmq ?_ (hc := h3) | refine ctq ?_ (hc := h3)); (simp only [go_sem]) | fail)
  all_goals (refine hR _ (rat [] (hK := ⟨rfl, rfl⟩)))
theorem sMergeE (a b : E) (ha : a.okT = true) (hb : b.okT = true) (h : (a.mapE E.era1).tm.same (b.mapE E.era1).tm = true) : AFn Try.prog 10 [.agg (teC a.tm), .agg (teC b.tm)] (match all2P T.cons a.tl b.tl with | true => .tup [.agg (teC (a.mrg b).tm), .one (.sc (.bool true))] | false => .tup [.agg (teC tm0), .one (.sc (.bool false))]) := by
  have ha' := ha; have hb' := hb
  simp only [E.okT, Bool.and_eq_true, decide_eq_true_eq] at ha' hb'
  have h1 := sErase a ha
  have h2 := sErase b hb
  have hz := E.size_okT (E.era_okT ha)
  have h3 := sTmSame 4611686018427387904 (by omega) (a.mapE E.era1).tm (b.mapE E.era1).tm (by omega)
  rw [h] at h3
  have hda := E.tl_depth a ha'.1 ha'.2.1
  have hdb := E.tl_depth b hb'.1 hb'.2.1
  have hc := sTermTypesO a ha
  have hc2 := sTermTypesO b hb
  have hla := a.tl_length
  have hlb := b.tl_length
  have hn : b.nt = a.nt := by rw [← E.era_nt b, ← E.tm_inj _ _ ((Tm.same_iff _ _).1 h), E.era_nt]
  have hn30 := nt30 ha
  rw [hn] at hc2 hlb
  have hLM : a.tl.length = b.tl.length := by omega
  have hwt := fun (hx : all2P T.cons a.tl b.tl = true) => sWithTypes a ha (zipM a.tl b.tl) (zipM_depth hda hdb) (by rw [zipM_length hLM, hla])
  rw [show (a.wt (zipM a.tl b.tl)).1 = a.mrg b from rfl] at hwt
  have hco := fun (k : Nat) (h1 : k < a.tl.length) (h2 : k < b.tl.length) => l1Cons (a.tl[k].size + 1) a.tl[k] b.tl[k] (Nat.lt_succ_self _)
  have hme := fun (k : Nat) (h1 : k < a.tl.length) (h2 : k < b.tl.length) => l1Meet a.tl[k] b.tl[k] (hda _ (List.getElem_mem _)) (hdb _ (List.getElem_mem _))
  clear hda hdb h ha hb ha' hb' hn hz
  generalize (a.mapE E.era1).tm = ea at *
  generalize (b.mapE E.era1).tm = eb at *
  generalize (a.mrg b).tm = t2 at *
  generalize b.tm = tb at *
  generalize a.tm = ta at *
  generalize a.tl = L at *
  generalize b.tl = M at *
  generalize a.nt = n at *
  have hlm : (M.map T.ty).length = n := by rw [List.length_map]; omega
  refine fn_in ?_; refine acl_in Try.func10 rfl isfn_10 (Nat.le_of_ble_eq_true rfl) (fun R hR => ?_); rw [Try.results10] at hR; refine wg_run ?_; (simp only [Try.f10, go_sem])
  repeat' (first | (first | (((first | apply sp1 | apply sp2 | apply sp3 | apply sp4 | apply sp5 | apply sp6 | apply sp7) <;> intro hb) <;> (simp only [go_sem, hb])) | ((first | apply wm_done | apply wt_done | apply wg_run | refine fk ?_ ?_) <;> (simp only [go_sem]))) | (first | refine cdq ?_ (hc := h1) | refine cmq ?_ (hc := h1) | refine ctq ?_ (hc := h1)); (simp only [go_sem]) | (first | refine cdq ?_ (hc := h2) | refine cmq ?_ (hc := h2) | refine ctq ?_ (hc := h2)); (simp only [go_sem]) | (first | refine cdq ?_ (hc := h3) | refine cmq ?_ (hc := h3) | refine ctq ?_ (hc := h3)); (simp only [go_sem]) | ((first | refine kdq [] ?_ (hc := hc) | refine kmq [] ?_ (hc := hc) | refine ktq [] ?_ (hc := hc)); rintro _ _ ⟨rfl, rfl⟩ <;> (simp only [go_sem])) | ((first | refine kdq [] ?_ (hc := hc2) | refine kmq [] ?_ (hc := hc2) | refine ktq [] ?_ (hc := hc2)); rintro _ _ ⟨rfl, rfl⟩ <;> (simp only [go_sem])) | fail)
  refine wd_for (σ := Nat) [2, 4, 10, 11, 12] (fun k => [.one (.ptr 9 0 0 0), .one (.ptr 9 1 0 0), .one (.row 2 2 n), .one (.sl (tyR (M.map T.ty))), .one (.sc (.int .i64 (k : Nat)))])
    (fun k => [⟨9, 28, .mut, [teC ta]⟩, ⟨9, 28, .mut, [[.sc (.int .i64 0), .sc (.string { data := { toList := [] } }), .sc (.int .i64 0), .sc (.int .i64 0), .sc (.slice none 0 0), .sc (.int .i64 0), .sc (.slice none 0 0), .sc (.int .i64 0), .sc (.slice none 0 0)]]⟩, ⟨2, 25, .mut, tyR ((mixK (zipM L M) L k).map T.ty)⟩])
    (fun k => k ≤ n ∧ ∀ (i : Nat) (h1 : i < L.length) (h2 : i < M.length), i < k → L[i].cons M[i] = true) (fun k => n - k) 0 ⟨Nat.zero_le _, fun i _ _ h => by omega⟩ (head_at [0, 2, 5] (by (simp only [go_sem]); first | done | rfl) (by (simp only [go_sem, hlm]); first | done | rfl) ⟨rfl, by rw [mixK_zero]⟩) ?_
  rintro k ⟨hk, hI⟩ G hG
  refine wg_run ?_
  by_cases hk1 : k < n
  · have d1 : decide ((k : Int) < (n : Nat)) = true := by simp; omega
    have hin : decide (k < n) = true := by simpa using hk1
    have hw1 := wrap_succ hk1 (by omega)
    have hkL : k < L.length := by omega
    have hkM : k < M.length := by omega
    have hlm : (M.map T.ty).length = n := by rw [List.length_map]; omega
    have hco1 := hco k hkL hkM
    have hme1 := hme k hkL hkM
    have hset := tyRset ((mixK (zipM L M) L k).map T.ty) k (L[k].meet M[k]).ty
    rw [← List.map_set, mixM_set hLM k hkL] at hset
    have hg : (tyR ((mixK (zipM L M) L k).map T.ty))[k]? = some (tyC L[k].ty) := by rw [tyR_get, List.getElem?_map, mixM_get hLM k hkL]; rfl
    have hkd : kid (M.map T.ty) k = M[k].ty := by rw [kid_eq (by simpa using hkM)]; simp
    have hg2 : (tyR (M.map T.ty))[k]? = some (tyC M[k].ty) := by rw [tyR_get, List.getElem?_map, List.getElem?_eq_getElem hkM]; rfl
    have hnx : L[k].cons M[k] = true → ∀ (i : Nat) (h1 : i < L.length) (h2 : i < M.length), i < k + 1 → L[i].cons M[i] = true := by
      intro hck i h1 h2 h3
      by_cases e : i = k
      · subst e; exact hck
      · exact hI i h1 h2 (by omega)
    have hno : L[k].cons M[k] = false → all2P T.cons L M = false := by
      intro hck
      cases e : all2P T.cons L M with
      | false => rfl
      | true => rw [all2P_get e k hkL hkM] at hck; cases hck
    generalize L[k].meet M[k] = u3 at *
    cases ec : L[k].cons M[k]
    · have hn0 := hno ec
      rw [ec] at hco1
      clear hme1 hnx hno hme hco hG
      generalize L[k] = u1 at *
      generalize M[k] = u2 at *
      rw [tyC_eq u1.ty] at hg hco1
      repeat' (first | (first | (simp only [go_sem, d1, hin, hw1, hg, hg2, hkd, hlm]) | (((first | apply sp1 | apply sp2 | apply sp3 | apply sp4 | apply sp5 | apply sp6 | apply sp7) <;> intro hb) <;> (simp only [go_sem, hb, d1, hin, hw1, hg, hg2, hkd, hlm])) | ((first | apply wm_done | apply wt_done | apply wg_run | refine fk ?_ ?_) <;> (simp only [go_sem, d1, hin, hw1, hg, hg2, hkd, hlm]))) | (first | refine cdq ?_ (hc := hco1) | refine cmq ?_ (hc := hco1) | refine ctq ?_ (hc := hco1)); (simp only [go_sem]) | ((first | refine mxq6 [] ?_ | refine mxq5 [] ?_ | refine mxq4 [] ?_ | refine mxq3 [] ?_ | refine mxq2 [] ?_ | refine mxq1 [] ?_ | refine mxq0 [] ?_ | fail); (simp only [go_sem, d1, hin, hw1, hg, hg2, hkd, hlm])) | fail)
      (refine hR _ (rat [] (hK := ⟨?_, rfl⟩)))
      rw [hn0]; rfl
    · rw [ec] at hco1
      have hme1 := hme1 ec
      have hnx2 := hnx ec
      clear hno hme hco hnx
      generalize L[k] = u1 at *
      generalize M[k] = u2 at *
      rw [tyC_eq u1.ty] at hg hme1 hco1
      rw [tyC_eq u3.ty] at hset hme1
      repeat' (first | (first | (simp only [go_sem, d1, hin, hw1, hg, hg2, hkd, hset, hlm]) | (((first | apply sp1 | apply sp2 | apply sp3 | apply sp4 | apply sp5 | apply sp6 | apply sp7) <;> intro hb) <;> (simp only [go_sem, hb, d1, hin, hw1, hg, hg2, hkd, hset, hlm])) | ((first | apply wm_done | apply wt_done | apply wg_run | refine fk ?_ ?_) <;> (simp only [go_sem, d1, hin, hw1, hg, hg2, hkd, hset, hlm]))) | (first | refine cdq ?_ (hc := hco1) | refine cmq ?_ (hc := hco1) | refine ctq ?_ (hc := hco1)); (simp only [go_sem]) | (first | refine cdq ?_ (hc := hme1) | refine cmq ?_ (hc := hme1) | refine ctq ?_ (hc := hme1)); (simp only [go_sem]) | ((first | refine mxq6 [] ?_ | refine mxq5 [] ?_ | refine mxq4 [] ?_ | refine mxq3 [] ?_ | refine mxq2 [] ?_ | refine mxq1 [] ?_ | refine mxq0 [] ?_ | fail); (simp only [go_sem, d1, hin, hw1, hg, hg2, hkd, hset, hlm])) | fail)
      all_goals exact hG (k + 1) _ _ ⟨by omega, hnx2⟩ (by omega) (hat [0, 1, 2] (hI := ⟨rfl, rfl⟩))
  · have d1 : decide ((k : Int) < (n : Nat)) = false := by simp; omega
    have hb0 : mixK (zipM L M) L k = zipM L M := mixK_all (zipM_length hLM) (by omega)
    have hlb2 : (zipM L M).length = n := by rw [zipM_length hLM]; exact hla
    have htk : (tyR ((zipM L M).map T.ty)).take n = tyR ((zipM L M).map T.ty) := List.take_of_length_le (by rw [tyR_length, List.length_map, hlb2]; exact Nat.le_refl _)
    have hall : all2P T.cons L M = true := all2P_of hLM fun i h1 h2 => hI i h1 h2 (by omega)
    have hwt := hwt hall
    rw [hb0]
    clear hG hme hco hI
    repeat' (first | (first | (simp only [go_sem, d1, hlb2, htk, List.length_map]) | (((first | apply sp1 | apply sp2 | apply sp3 | apply sp4 | apply sp5 | apply sp6 | apply sp7) <;> intro hb) <;> (simp only [go_sem, hb, d1, hlb2, htk, List.length_map])) | ((first | apply wm_done | apply wt_done | apply wg_run | refine fk ?_ ?_) <;> (simp only [go_sem, d1, hlb2, htk, List.length_map]))) | (first | refine cd (hp := (by (simp only [go_sem, hlb2, htk, List.length_map]); first | done | rfl)) (hc := hwt) (hK := ?_) | refine cm (hp := (by (simp only [go_sem, hlb2, htk, List.length_map]); first | done | rfl)) (hc := hwt) (hK := ?_) | refine ct (hp := (by (simp only [go_sem, hlb2, htk, List.length_map]); first | done | rfl)) (hc := hwt) (hK := ?_)); (simp only [go_sem, hlb2, htk, List.length_map]) | ((first | refine mxq6 [] ?_ | refine mxq5 [] ?_ | refine mxq4 [] ?_ | refine mxq3 [] ?_ | refine mxq2 [] ?_ | refine mxq1 [] ?_ | refine mxq0 [] ?_ | fail); (simp only [go_sem, d1, hlb2, htk, List.length_map])) | fail)
    (refine hR _ (rat [] (hK := ⟨?_, rfl⟩)))
    rw [hall]
/-- what the reference's MergeTerms yields -/
theorem sMergeBad (a b : Tm) (ha : a.size < 1000000000) (hb : b.size < 1000000000) (h : mrgB a b = false) : AFn Try.prog 10 [.agg (teC a), .agg (teC b)] (.tup [.agg (teC tm0), .one (.sc (.bool false))]) := by
  unfold mrgB at h
  cases e1 : a.termV
  · exact sMergeInv a b ha hb (by rw [e1]; rfl)
  · cases e2 : b.termV
    · exact sMergeInv a b ha hb (by rw [e1, e2]; rfl)
    · rw [e1, e2, Bool.true_and, Bool.true_and] at h
      obtain ⟨x, rfl, hx⟩ := Tm.termV_E e1
      obtain ⟨y, rfl, hy⟩ := Tm.termV_E e2
      have hx' := hx; have hy' := hy
      simp only [E.okT, Bool.and_eq_true] at hx' hy'
      rw [E.alk_dec (fun a b => T.cons_ty a b) hx'.2.1 hy'.2.1] at h
      cases e3 : (x.mapE E.era1).tm.same (y.mapE E.era1).tm
      · exact sMergeDif x y hx hy e3
      · rw [e3, Bool.true_and] at h
        have := sMergeE x y hx hy e3
        rw [h] at this; exact this
theorem sMergeGood (a b : E) (ha : a.okT = true) (hb : b.okT = true) (h : a.tm.alk Ty.cons b.tm = true) : AFn Try.prog 10 [.agg (teC a.tm), .agg (teC b.tm)] (.tup [.agg (teC (a.mrg b).tm), .one (.sc (.bool true))]) := by
  have ha' := ha; have hb' := hb
  simp only [E.okT, Bool.and_eq_true] at ha' hb'
  rw [E.alk_dec (fun a b => T.cons_ty a b) ha'.2.1 hb'.2.1, Bool.and_eq_true] at h
  have := sMergeE a b ha hb h.1
  rw [h.2] at this; exact this
end Go.Proofs.Ytnaebafafhamjaa
/- Terms: sameness, in the program; on shadows. -/
namespace Go.Proofs.Ytnaebafafhamjaa
open Go.RowKit Go.Proofs.Sh Go.Proofs.Grad
set_option maxRecDepth 100000
set_option maxHeartbeats 8000000
theorem iTmSame (n : Nat) (hn : n ≤ 4611686018427387904) : ∀ a b : Tm, a.size < n → AFn Try.prog 11 [.agg (teC a), .agg (teC b)] (.one (.sc (.bool (a.same b)))) := by
  induction n with
  | zero => intro a b h; omega
  | succ n ih =>
    intro a b h
    have hl := telen_lt a
    have hk : ∀ k, k < a.kids.length → k < b.kids.length → AFn Try.prog 11 [.agg (teC (teKid a.kids k)), .agg (teC (teKid b.kids k))] (.one (.sc (.bool ((teKid a.kids k).same (teKid b.kids k))))) := fun k h1 h2 => ih (by omega) _ _ (by have := teKid_lt h1; omega)
    have hf := teEqFunc _ Tm.same a.kids b.kids (by omega) hk
    have h1 := iSame 4611686018427387904 (by omega) a.type b.type (by cases a; simp only [Tm.size, Tm.type] at *; omega)
    have h2 := iSame 4611686018427387904 (by omega) a.frm b.frm (by cases a; simp only [Tm.size, Tm.frm] at *; omega)
    clear hk ih
    have e : a.same b = (a.kind == b.kind && (a.name.toList == b.name.toList && (a.num == b.num && (a.type.same b.type && (a.frm.same b.frm && (a.label == b.label && teall2 Tm.same a.kids b.kids)))))) := by
      cases a; cases b; rw [← tesames_all2]; simp only [Tm.same, Tm.kind, Tm.name, Tm.num, Tm.type, Tm.frm, Tm.label, Tm.kids, Bool.and_assoc]
    rw [e]
    refine fn_in ?_; refine acl_in Try.func11 rfl isfn_11 (Nat.le_of_ble_eq_true rfl) (fun R hR => ?_); rw [Try.results11] at hR; refine wg_run ?_; (simp only [Try.f11, go_sem])
    repeat' (first | (first | (((first | apply sp1 | apply sp2 | apply sp3 | apply sp4 | apply sp5 | apply sp6 | apply sp7) <;> intro hb) <;> (simp only [go_sem, hb])) | ((first | apply wm_done | apply wt_done | apply wg_run | refine fk ?_ ?_) <;> (simp only [go_sem]))) | (first | refine cdq ?_ (hc := h1) | refine cmq ?_ (hc := h1) | refine ctq ?_ (hc := h1)); (simp only [go_sem]) | (first | refine cdq ?_ (hc := h2) | refine cmq ?_ (hc := h2) | refine ctq ?_ (hc := h2)); (simp only [go_sem]) | (first | refine cdq ?_ (hc := hf) | refine cmq ?_ (hc := hf) | refine ctq ?_ (hc := hf)); (simp only [go_sem]) | ((first | refine mxq6 [] ?_ | refine mxq5 [] ?_ | refine mxq4 [] ?_ | refine mxq3 [] ?_ | refine mxq2 [] ?_ | refine mxq1 [] ?_ | refine mxq0 [] ?_ | fail); (simp only [go_sem])))
    all_goals (refine hR _ (rat [] (hK := ⟨?_, rfl⟩)))
    all_goals (clear hR h1 h2 hf; simp_all)
end Go.Proofs.Ytnaebafafhamjaa
/- Merges are meets: the law's walk. On shadows. -/
namespace Go.Proofs.Ytnaebafafhamjaa
open Go.RowKit Go.Proofs.Sh Go.Proofs.Grad
set_option maxRecDepth 100000
set_option maxHeartbeats 16000000
theorem iPrecT (a b : Tm) (ha : a.size < 4611686018427387904) : AFn Try.prog 12 [.agg (teC a), .agg (teC b)] (.one (.sc (.bool (a.termV && (b.termV && a.alk Ty.prec b))))) := by
  have h1 := iTermV a
  have h2 := iTermV b
  have h3 := iAlike 49 Ty.prec (fun x y hx => iPrec _ (Nat.le_refl _) x y hx) _ (Nat.le_refl _) a b ha
  cases e1 : a.termV <;> cases e2 : b.termV <;> rw [e1] at h1 <;> rw [e2] at h2
  all_goals
    simp only [Bool.true_and, Bool.false_and]
    refine fn_in ?_; refine acl_in Try.func12 rfl isfn_12 (Nat.le_of_ble_eq_true rfl) (fun R hR => ?_); rw [Try.results12] at hR; refine wg_run ?_; (simp only [Try.f12, go_sem])
    repeat' (first | (first | (((first | apply sp1 | apply sp2 | apply sp3 | apply sp4 | apply sp5 | apply sp6 | apply sp7) <;> intro hb) <;> (simp only [go_sem, hb])) | ((first | apply wm_done | apply wt_done | apply wg_run | refine fk ?_ ?_) <;> (simp only [go_sem]))) | (first | refine cdq ?_ (hc := h1) | refine cmq ?_ (hc := h1) | refine ctq ?_ (hc := h1)); (simp only [go_sem]) | (first | refine cdq ?_ (hc := h2) | refine cmq ?_ (hc := h2) | refine ctq ?_ (hc := h2)); (simp only [go_sem]) | (first | refine cdq ?_ (hc := h3) | refine cmq ?_ (hc := h3) | refine ctq ?_ (hc := h3)); (simp only [go_sem]) | ((first | refine mxq6 [] ?_ | refine mxq5 [] ?_ | refine mxq4 [] ?_ | refine mxq3 [] ?_ | refine mxq2 [] ?_ | refine mxq1 [] ?_ | refine mxq0 [] ?_ | fail); (simp only [go_sem])) | fail)
    (refine hR _ (rat [] (hK := ⟨rfl, rfl⟩)))
theorem lMergeTerms (l : List Int) (hc : ∀ k, 0 ≤ byte l k ∧ byte l k < 256) : AFn Try.prog 3 [.one (.sl (byR l))] (.one (.sc (.bool true))) := by
  by_cases hlen : 1048576 < l.length
  · have hg : decide (((l.length : Nat) : Int) > 1048576) = true := by simp; omega
    refine fn_in ?_; refine acl_in Try.func3 rfl isfn_3 (Nat.le_of_ble_eq_true rfl) (fun R hR => ?_); rw [Try.results3] at hR; refine wg_run ?_; (simp only [Try.f3, go_sem, hg])
    (refine hR _ (rat [] (hK := ⟨rfl, rfl⟩)))
  · have hg : decide (((l.length : Nat) : Int) > 1048576) = false := by simp; omega
    have hd := dMergeTerms l ⟨by omega, hc⟩
    refine fn_in ?_; refine acl_in Try.func3 rfl isfn_3 (Nat.le_of_ble_eq_true rfl) (fun R hR => ?_); rw [Try.results3] at hR; refine wg_run ?_; (simp only [Try.f3, go_sem, hg])
    ((first | refine kdq [] ?_ (hc := hd) | refine kmq [] ?_ (hc := hd) | refine ktq [] ?_ (hc := hd)); rintro _ _ ⟨a, b, rfl, ha, hb, rfl⟩ <;> (simp only [go_sem]))
    have ht0 : tm0.size ≤ 10 := by simp [tm0, noTy, Tm.size, Ty.size, Ty.sizes, Tm.sizes]
    have same0 : ∀ t : Tm, t.size < 4611686018427387904 → AFn Try.prog 11 [.agg (teC t), .agg (teC t)] (.one (.sc (.bool true))) := fun t ht => by
      have := iTmSame _ (Nat.le_refl _) t t ht
      rwa [Tm.same_refl] at this
    cases ev : mrgB a b
    · have h1 := iMergeBad a b (by omega) ev
      have h2 := sMergeBad a b (by omega) (by omega) ev
      have h3 := same0 tm0 (by omega)
      clear same0
      generalize tm0 = t0 at *
      repeat' (first | (first | (simp only [go_sem, int_bne, beq_self_eq_true]) | (((first | apply sp1 | apply sp2 | apply sp3 | apply sp4 | apply sp5 | apply sp6 | apply sp7) <;> intro hb) <;> (simp only [go_sem, hb, int_bne, beq_self_eq_true])) | ((first | apply wm_done | apply wt_done | apply wg_run | refine fk ?_ ?_) <;> (simp only [go_sem, int_bne, beq_self_eq_true]))) | (first | refine cdq ?_ (hc := h1) | refine cmq ?_ (hc := h1) | refine ctq ?_ (hc := h1)); (simp only [go_sem]) | (first | refine cdq ?_ (hc := h2) | refine cmq ?_ (hc := h2) | refine ctq ?_ (hc := h2)); (simp only [go_sem]) | (first | refine cdq ?_ (hc := h3) | refine cmq ?_ (hc := h3) | refine ctq ?_ (hc := h3)); (simp only [go_sem]) | ((first | refine mxq6 [] ?_ | refine mxq5 [] ?_ | refine mxq4 [] ?_ | refine mxq3 [] ?_ | refine mxq2 [] ?_ | refine mxq1 [] ?_ | refine mxq0 [] ?_ | fail); (simp only [go_sem, int_bne, beq_self_eq_true])) | fail)
      all_goals (refine hR _ (rat [] (hK := ⟨rfl, rfl⟩)))
    · unfold mrgB at ev
      simp only [Bool.and_eq_true] at ev
      obtain ⟨e1, e2, e3⟩ := ev
      obtain ⟨e, rfl, ho⟩ := Tm.termV_E e1
      obtain ⟨f, rfl, ho2⟩ := Tm.termV_E e2
      have ho' := ho
      have ho2' := ho2
      simp only [E.okT, Bool.and_eq_true, decide_eq_true_eq] at ho' ho2'
      have hx := E.mrg_okT ho ho2
      have hz := E.size_okT hx
      have hza := E.size_okT ho
      have hp := E.mrg_prec ho'.2.1 ho2'.2.1 e3
      have h1 := iMergeE e f ho ho2 e3
      have h2 := sMergeGood e f ho ho2 e3
      have h3 := same0 (e.mrg f).tm (by omega)
      have h4 := iMergeE f e ho2 ho (E.mrg_alk ho'.2.1 ho2'.2.1 e3)
      rw [E.mrg_comm ho'.2.1 ho2'.2.1 e3] at h4
      have h5 := iMergeE (e.mrg f) e hx ho (prec_alk (E.mrg_noC ho'.2.1) ho'.2.1 hp.1)
      rw [E.mrg_mrg ho'.2.1 ho2'.2.1 e3] at h5
      have h6 := iPrecT (e.mrg f).tm e.tm (by omega)
      rw [E.termV_tm, E.termV_tm, hx, ho, hp.1] at h6
      have h7 := iPrecT (e.mrg f).tm f.tm (by omega)
      rw [E.termV_tm, E.termV_tm, hx, ho2, hp.2] at h7
      have h8 := iPrecT e.tm f.tm (by omega)
      rw [E.termV_tm, E.termV_tm, ho, ho2, E.mrg_iff ho'.2.1 ho2'.2.1 e3] at h8
      have h9 := iTmSame _ (Nat.le_refl _) (e.mrg f).tm e.tm (by omega)
      simp only [Bool.true_and, Bool.and_self] at h6 h7 h8
      generalize (e.mrg f).tm.same e.tm = bb at *
      clear hp e3 hx hz ho' ho2' same0
      generalize (e.mrg f).tm = t3 at *
      generalize e.tm = t at *
      generalize f.tm = t2 at *
      repeat' (first | (first | (simp only [go_sem, int_bne, beq_self_eq_true]) | (((first | apply sp1 | apply sp2 | apply sp3 | apply sp4 | apply sp5 | apply sp6 | apply sp7) <;> intro hb) <;> (simp only [go_sem, hb, int_bne, beq_self_eq_true])) | ((first | apply wm_done | apply wt_done | apply wg_run | refine fk ?_ ?_) <;> (simp only [go_sem, int_bne, beq_self_eq_true]))) | (first | refine cdq ?_ (hc := h1) | refine cmq ?_ (hc := h1) | refine ctq ?_ (hc := h1)); (simp only [go_sem]) | (first | refine cdq ?_ (hc := h2) | refine cmq ?_ (hc := h2) | refine ctq ?_ (hc := h2)); (simp only [go_sem]) | (first | refine cdq ?_ (hc := h3) | refine cmq ?_ (hc := h3) | refine ctq ?_ (hc := h3)); (simp only [go_sem]) | (first | refine cdq ?_ (hc := h4) | refine cmq ?_ (hc := h4) | refine ctq ?_ (hc := h4)); (simp only [go_sem]) | (first | refine cdq ?_ (hc := h5) | refine cmq ?_ (hc := h5) | refine ctq ?_ (hc := h5)); (simp only [go_sem]) | (first | refine cdq ?_ (hc := h6) | refine cmq ?_ (hc := h6) | refine ctq ?_ (hc := h6)); (simp only [go_sem]) | (first | refine cdq ?_ (hc := h7) | refine cmq ?_ (hc := h7) | refine ctq ?_ (hc := h7)); (simp only [go_sem]) | (first | refine cdq ?_ (hc := h8) | refine cmq ?_ (hc := h8) | refine ctq ?_ (hc := h8)); (simp only [go_sem]) | (first | refine cdq ?_ (hc := h9) | refine cmq ?_ (hc := h9) | refine ctq ?_ (hc := h9)); (simp only [go_sem]) | ((first | refine mxq6 [] ?_ | refine mxq5 [] ?_ | refine mxq4 [] ?_ | refine mxq3 [] ?_ | refine mxq2 [] ?_ | refine mxq1 [] ?_ | refine mxq0 [] ?_ | fail); (simp only [go_sem, int_bne, beq_self_eq_true])) | fail)
      all_goals (refine hR _ (rat [] (hK := ⟨rfl, rfl⟩)))
end Go.Proofs.Ytnaebafafhamjaa
/- From contracts on shadows to calls in worlds; a law's argument of bytes. -/
namespace Go.Proofs.Sh
open Go.RowKit
theorem sim_nil (w : World) : Sim [] [] [] w :=
  ⟨rfl, by simp, by simp, fun i b g h => by simp at h, fun i j b b' g _ h => by simp at h, fun i b g h => by simp at h⟩
theorem law_calls {P : Program} {f : FuncId} {args : List AV} {vs : Array Value} {w : World} (h : AFn P f args (.one (.sc (.bool true)))) (hr : AV.repl [] [] w args vs.toList) :
    Calls P f vs w (fun e w' => e = .returned (.bool true) ∧ Below w.heap.size w w') := by
  refine (h.out.2 [] [] w vs (sim_nil w) hr).mono ?_
  rintro e w' ⟨r, H', μ', v, rfl, ⟨rfl, rfl⟩, hS, hT, hv⟩
  simp only [AV.rep, C.rep] at hv
  refine ⟨by rw [hv.1], hT.keep.os, hT.keep.tape, hT.keep.output, hT.keep.size, fun b hb => hT.keep.block b (by simp [alive]) hb⟩
/-- bytes in memory -/
def Byt (w : World) (q : Option Addr) (n c : Nat) : Prop :=
  n ≤ c ∧ c ≤ maxLen ∧ ∀ i, i < n → ∃ b off, ∃ x : Int, q = some ⟨b, off, none⟩ ∧ b < w.heap.size ∧ w.cell? ⟨b, off + i, none⟩ = some (.int .u8 x) ∧ 0 ≤ x ∧ x ≤ 255
def byAt (w : World) (b off i : Nat) : Int := match w.cell? ⟨b, off + i, none⟩ with | some (.int _ x) => x | _ => 0
theorem repss_by {w : World} {b : Nat} : ∀ (l : List Int) (off : Nat), (∀ i (h : i < l.length), w.cell? ⟨b, off + i, none⟩ = some (.int .u8 l[i])) → C.repss [] [] w 1 (byR l) b off
  | [], _, _ => trivial
  | x :: l, off, h => by
    have h0 : w.cell? ⟨b, off, none⟩ = some (.int .u8 x) := h 0 (by simp)
    refine ⟨rfl, ⟨⟨_, h0, ⟨rfl, rfl⟩⟩, trivial⟩, repss_by l (off + 1) fun i hi => ?_⟩
    have := h (i + 1) (by simpa using hi)
    rw [show off + 1 + i = off + (i + 1) by omega]
    simpa using this
theorem Byt.rep {w : World} {q : Option Addr} {n c : Nat} (h : Byt w q n c) : ∃ l : List Int, (∀ k, 0 ≤ byte l k ∧ byte l k < 256) ∧ AV.rep [] [] w (.one (.sl (byR l))) (.slice q n c) := by
  obtain ⟨h1, h2, h3⟩ := h
  cases n with
  | zero =>
    refine ⟨[], fun k => by simp [byte], ?_⟩
    simp only [AV.rep, C.rep]
    exact ⟨q, c, rfl, by simp [byR], h2, .inl rfl⟩
  | succ n =>
    obtain ⟨b, off, x0, rfl, hb, _⟩ := h3 0 (by omega)
    have h4 : ∀ i, i < n + 1 → w.cell? ⟨b, off + i, none⟩ = some (.int .u8 (byAt w b off i)) ∧ 0 ≤ byAt w b off i ∧ byAt w b off i ≤ 255 := by
      intro i hi
      obtain ⟨b', off', x, e, _, g1, g2, g3⟩ := h3 i hi
      cases e
      simp only [byAt, g1]
      exact ⟨trivial, g2, g3⟩
    refine ⟨(List.range (n + 1)).map (byAt w b off), fun k => ?_, ?_⟩
    · by_cases hk : k < n + 1
      · have := h4 k hk
        simp [byte, hk]; omega
      · simp [byte, hk]
    · simp only [AV.rep, C.rep]
      refine ⟨_, c, by simp [byR_length], by simpa [byR_length] using h1, h2, .inr ⟨b, off, 1, rfl, hb, by simp, repss_by _ _ fun i hi => ?_⟩⟩
      simp at hi
      simpa using (h4 i hi).1
end Go.Proofs.Sh
namespace Go.Proofs.Ytnaebafafhamjaa
open Go.RowKit Go.Proofs.Sh
open Go.ChangeShapes Go.WideShapes Go.ChangeAt
theorem own_k : ownKnob Try.prog.godebug = none := by kernel_rfl
theorem laid_k : laidOutB Try.prog = true := by kernel_rfl
variable {H : Type} {enc : TypeId × Value → H} {w : World} {base : Nat} {spare : Nat → Bool} {held : Bool}
theorem add_no {b o k : Nat} : (⟨b, o, none⟩ : Addr).add k = ⟨b, o + k, none⟩ := by
  unfold Addr.add; split <;> simp_all
theorem spot_no {a : Addr} {v : Value} (h : w.cell? a = some v) : a.spot = none := by
  obtain ⟨b, o, s⟩ := a
  cases s with
  | none => rfl
  | some s =>
    simp only [World.cell?] at h
    split at h <;> simp at h
theorem read_Byt {fuel : Nat} {v : Value} {x : DataW H × List MemPlace} (h : DataW.trod enc Try.prog w base spare held fuel 22 [v] = some x) :
    ∃ (q : Option Addr) (n c : Nat), v = .slice q n c ∧ Byt w q n c := by
  have hc1 : Try.prog.cellsOf 5 = 1 := by kernel_rfl
  rcases DataW.trod_slice Try.underlying22 h with ⟨e1, _⟩ | ⟨a, len, cap, elems, rest, m', hm', e1, _, hb, hlc, hcm, hel, hall, _, _⟩
  · simp at e1
    subst e1
    exact ⟨none, 0, 0, rfl, by omega, by simp [maxLen], fun i hi => by omega⟩
  · simp at e1
    subst e1
    have hcell : ∀ i, i < len → ∃ k : Int, w.cell? (a.add i) = some (.int .u8 k) ∧ (Lit.int IntKind.u8 k).wf = true := by
      intro i hi
      have h1 := hall i hi
      rw [hc1, List.getElem?_eq_getElem (by omega), Nat.mul_one] at h1
      cases h2 : w.cells? base (a.add i) 1 with
      | none => rw [h2] at h1; simp at h1
      | some ds =>
        rw [h2] at h1
        simp only [Option.bind_some] at h1
        obtain ⟨k, e0, k1, k2⟩ := DataW.trod_int Try.underlying5 h1
        subst e0
        have h3 : w.cell? (a.add i) = some (.int .u8 k) := by
          unfold World.cells? at h2
          split at h2
          · simp only [List.range_succ, List.range_zero, List.nil_append, List.mapM_cons, List.mapM_nil, Option.pure_def, Option.bind_eq_bind] at h2
            cases h0 : w.cell? ((a.add i).add 0) with
            | none => simp [h0] at h2
            | some u =>
              simp [h0] at h2
              have e0 : (a.add i).add 0 = a.add i := by simp [Addr.add]
              rw [e0] at h0; rw [h0, h2]
          · cases h2
        exact ⟨k, h3, k2⟩
    refine ⟨some a, len, cap, rfl, hlc, hcm, fun i hi => ?_⟩
    have hs : a.spot = none := by
      obtain ⟨k, h3, _⟩ := hcell 0 (by omega)
      have := spot_no h3
      simp [Addr.add] at this
      exact this
    obtain ⟨k, h3, k2⟩ := hcell i hi
    obtain ⟨b, o, s⟩ := a
    simp at hs
    subst hs
    rw [add_no] at h3
    refine ⟨b, o, k, rfl, lt_of_cell h3, h3, ?_⟩
    simp [Lit.wf, IntKind.min, IntKind.max, IntKind.signed, IntKind.bits] at k2
    omega
set_option maxRecDepth 100000 in
theorem open_Byt {v : Value} {d : DataW H} {p : List MemPlace} {r : Reach} {b0 : Nat} (hv : Value.okWide Try.prog w r b0 22 v) (h : DataW.Trod enc Try.prog w base spare held 22 v d p) :
    ∃ (q : Option Addr) (n c : Nat), v = .slice q n c ∧ Byt w q n c := by
  obtain ⟨a, len, cap, rfl⟩ := okWide_slice Try.underlying22 hv
  obtain ⟨fuel, hf⟩ := h
  exact read_Byt hf
end Go.Proofs.Ytnaebafafhamjaa
