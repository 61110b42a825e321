/- Texts of the proof, one behind another. -/
import Derived.Test.YtfgjiamolknicaaKW9
import Derived.Test.YtfgjiamolknicaaKW15
import Derived.Test.YtfgjiamolknicaaKW17
set_option linter.unusedSimpArgs false
set_option linter.unusedVariables false
/- Terms: slots, precision; on shadows. -/
namespace Go.Proofs.Grad
/-- the types of a valid term -/
noncomputable def Tm.typesV (t : Tm) : List Ty := match t.termV with | true => t.types | false => []
end Go.Proofs.Grad
namespace Go.Proofs.Ytfgjiamolknicaa
open Go.RowKit Go.Proofs.Sh Go.Proofs.Grad
set_option maxRecDepth 100000
set_option maxHeartbeats 8000000
theorem sTermTypes (t : Tm) (h : t.size < 1099511627776) : AFn Try.prog 93 [.agg (teC t)] (.one (.sl (tyR t.typesV))) := by
  have hv := sTermV t (by omega)
  have hnl := t.nodes_le
  have hc := l2Types _ (Nat.le_refl _) t h [] (by simp) (by simp; omega)
  simp only [List.length_nil, List.nil_append, tyR] at hc
  unfold Tm.typesV
  cases hb : t.termV
  all_goals
    rw [hb] at hv
    refine fn_in ?_; refine acl_in Try.func93 rfl isfn_93 (Nat.le_of_ble_eq_true rfl) (fun R hR => ?_); rw [Try.results93] at hR; refine wg_run ?_; (simp only [Try.f93, go_sem])
    repeat' (first | (first | (((first | apply sp1 | apply sp2 | apply sp3 | apply sp4 | apply sp5 | apply sp6 | apply sp7) <;> intro hb) <;> (simp only [go_sem, hb])) | ((first | apply wm_done | apply wt_done | apply wg_run | refine fk ?_ ?_) <;> (simp only [go_sem]))) | (first | refine cdq ?_ (hc := hv) | refine cmq ?_ (hc := hv) | refine ctq ?_ (hc := hv)); (simp only [go_sem]) | ((first | refine kdq [1] ?_ (hc := hc) | refine kmq [1] ?_ (hc := hc) | refine ktq [1] ?_ (hc := hc)); rintro _ _ (⟨rfl, rfl⟩ | ⟨rfl, rfl⟩) <;> (simp only [go_sem])))
    all_goals (refine hR _ (rat [] (hK := ⟨?_, rfl⟩)))
    all_goals rfl
end Go.Proofs.Ytfgjiamolknicaa
/- Terms with other types, in the program and in the reference. On shadows. -/
namespace Go.Proofs.Grad
/-- a term with the types of a list, and those that are left -/
def E.wt : E → List T → E × List T
  | .lam x t a, l => match l with | [] => (.lam x t a, []) | u :: l => (.lam x u (a.wt l).1, (a.wt l).2)
  | .asc t a, l => match l with | [] => (.asc t a, []) | u :: l => (.asc u (a.wt l).1, (a.wt l).2)
  | .app a b, l => (.app (a.wt l).1 (b.wt (a.wt l).2).1, (b.wt (a.wt l).2).2)
  | .add a b, l => (.add (a.wt l).1 (b.wt (a.wt l).2).1, (b.wt (a.wt l).2).2)
  | .less a b, l => (.less (a.wt l).1 (b.wt (a.wt l).2).1, (b.wt (a.wt l).2).2)
  | .pair a b, l => (.pair (a.wt l).1 (b.wt (a.wt l).2).1, (b.wt (a.wt l).2).2)
  | .ite a b c, l => (.ite (a.wt l).1 (b.wt (a.wt l).2).1 (c.wt (b.wt (a.wt l).2).2).1, (c.wt (b.wt (a.wt l).2).2).2)
  | .fst a, l => (.fst (a.wt l).1, (a.wt l).2)
  | .snd a, l => (.snd (a.wt l).1, (a.wt l).2)
  | .cast s t k a, l => (.cast s t k (a.wt l).1, (a.wt l).2)
  | e, l => (e, l)
/-- how many types a term mentions -/
def E.nt : E → Nat
  | .var _ | .num _ | .tru | .fls => 0
  | .lam _ _ a | .asc _ a => 1 + a.nt
  | .fst a | .snd a | .cast _ _ _ a => a.nt
  | .app a b | .add a b | .less a b | .pair a b => a.nt + b.nt
  | .ite a b c => a.nt + (b.nt + c.nt)
theorem E.wt_rest (e : E) : ∀ l : List T, e.nt ≤ l.length → (e.wt l).2 = l.drop e.nt := by
  induction e with
  | lam x t a ih | asc t a ih =>
    intro l h
    cases l with
    | nil => simp [E.nt] at h
    | cons u l =>
      simp only [E.nt, List.length_cons] at h
      simp only [E.wt, E.nt]
      rw [ih l (by omega), Nat.add_comm 1, List.drop_succ_cons]
  | app a b iha ihb | add a b iha ihb | less a b iha ihb | pair a b iha ihb =>
    intro l h
    simp only [E.nt] at h
    simp only [E.wt, E.nt]
    rw [iha l (by omega), ihb _ (by rw [List.length_drop]; omega), List.drop_drop]
  | ite a b c iha ihb ihc =>
    intro l h
    simp only [E.nt] at h
    simp only [E.wt, E.nt]
    rw [iha l (by omega), ihb _ (by rw [List.length_drop]; omega), ihc _ (by simp only [List.length_drop]; omega), List.drop_drop, List.drop_drop]
  | fst a ih | snd a ih | cast _ _ _ a ih => intro l h; exact ih l h
  | _ => intro l h; rfl
theorem mem_rest {e : E} {l : List T} (h : e.nt ≤ l.length) {P : T → Prop} (hl : ∀ t ∈ l, P t) : ∀ t ∈ (e.wt l).2, P t := by
  rw [E.wt_rest e l h]; exact fun t ht => hl t (List.mem_of_mem_drop ht)
theorem len_rest {e : E} {l : List T} (h : e.nt ≤ l.length) : (e.wt l).2.length = l.length - e.nt := by rw [E.wt_rest e l h, List.length_drop]
end Go.Proofs.Grad
namespace Go.Proofs.Ytfgjiamolknicaa
open Go.RowKit Go.Proofs.Sh Go.Proofs.Grad
set_option maxRecDepth 100000
set_option maxHeartbeats 8000000
theorem iHasT (t : Tm) : AFn Try.prog 91 [.agg (teC t)] (.one (.sc (.bool (t.kind == 5 || t.kind == 13)))) := by
  refine fn_in ?_; refine acl_in Try.func91 rfl isfn_91 (Nat.le_of_ble_eq_true rfl) (fun R hR => ?_); rw [Try.results91] at hR; refine wg_run ?_; (simp only [Try.f91, go_sem])
  repeat' (first | (first | (((first | apply sp1 | apply sp2 | apply sp3 | apply sp4 | apply sp5 | apply sp6 | apply sp7) <;> intro hb) <;> (simp only [go_sem, hb])) | ((first | apply wm_done | apply wt_done | apply wg_run | refine fk ?_ ?_) <;> (simp only [go_sem]))) | fail)
  all_goals (refine hR _ (rat [] (hK := ⟨?_, rfl⟩)))
  all_goals simp_all
theorem iRetyped (e : E) : ∀ l : List T, e.wf = true → e.noC = true → (∀ t ∈ l, t.depth ≤ 4) → e.nt ≤ l.length → AFn Try.prog 110 [.agg (teC e.tm), .one (.sl (tyR (l.map T.ty)))] (.tup [.agg (teC (e.wt l).1.tm), .one (.sl (tyR ((e.wt l).2.map T.ty)))]) := by
  induction e with
  | var x =>
    intro l hw hn hl hz
    have h0 := iHasT (Tm.mk 1 (nm x) 0 noTy noTy 0 [])
    simp only [Tm.kind] at h0
    simp only [E.wt, E.tm, nd]
    generalize tyR (l.map T.ty) = R at *
    refine fn_in ?_; refine acl_in Try.func110 rfl isfn_110 (Nat.le_of_ble_eq_true rfl) (fun R hR => ?_); rw [Try.results110] at hR; refine wg_run ?_; (simp only [Try.f110, go_sem])
    repeat' (first | (first | (((first | apply sp1 | apply sp2 | apply sp3 | apply sp4 | apply sp5 | apply sp6 | apply sp7) <;> intro hb) <;> (simp only [go_sem, hb])) | ((first | apply wm_done | apply wt_done | apply wg_run | refine fk ?_ ?_) <;> (simp only [go_sem]))) | (first | refine cdq ?_ (hc := h0) | refine cmq ?_ (hc := h0) | refine ctq ?_ (hc := h0)); (simp only [go_sem]) | (first | (refine wl_next (wg_run ?_); (simp only [go_sem])) | refine wd_rounds 6 ?_) | ((first | refine mxq6 [] ?_ | refine mxq5 [] ?_ | refine mxq4 [] ?_ | refine mxq3 [] ?_ | refine mxq2 [] ?_ | refine mxq1 [] ?_ | refine mxq0 [] ?_ | fail); (simp only [go_sem])) | fail)
    (refine hR _ (rat [] (hK := ⟨rfl, rfl⟩)))
  | num x =>
    intro l hw hn hl hz
    have h0 := iHasT (Tm.mk 2 ByteArray.empty x noTy noTy 0 [])
    simp only [Tm.kind] at h0
    simp only [E.wt, E.tm, nd]
    generalize tyR (l.map T.ty) = R at *
    refine fn_in ?_; refine acl_in Try.func110 rfl isfn_110 (Nat.le_of_ble_eq_true rfl) (fun R hR => ?_); rw [Try.results110] at hR; refine wg_run ?_; (simp only [Try.f110, go_sem])
    repeat' (first | (first | (((first | apply sp1 | apply sp2 | apply sp3 | apply sp4 | apply sp5 | apply sp6 | apply sp7) <;> intro hb) <;> (simp only [go_sem, hb])) | ((first | apply wm_done | apply wt_done | apply wg_run | refine fk ?_ ?_) <;> (simp only [go_sem]))) | (first | refine cdq ?_ (hc := h0) | refine cmq ?_ (hc := h0) | refine ctq ?_ (hc := h0)); (simp only [go_sem]) | (first | (refine wl_next (wg_run ?_); (simp only [go_sem])) | refine wd_rounds 6 ?_) | ((first | refine mxq6 [] ?_ | refine mxq5 [] ?_ | refine mxq4 [] ?_ | refine mxq3 [] ?_ | refine mxq2 [] ?_ | refine mxq1 [] ?_ | refine mxq0 [] ?_ | fail); (simp only [go_sem])) | fail)
    (refine hR _ (rat [] (hK := ⟨rfl, rfl⟩)))
  | tru =>
    intro l hw hn hl hz
    have h0 := iHasT (Tm.mk 3 ByteArray.empty 0 noTy noTy 0 [])
    simp only [Tm.kind] at h0
    simp only [E.wt, E.tm, nd]
    generalize tyR (l.map T.ty) = R at *
    refine fn_in ?_; refine acl_in Try.func110 rfl isfn_110 (Nat.le_of_ble_eq_true rfl) (fun R hR => ?_); rw [Try.results110] at hR; refine wg_run ?_; (simp only [Try.f110, go_sem])
    repeat' (first | (first | (((first | apply sp1 | apply sp2 | apply sp3 | apply sp4 | apply sp5 | apply sp6 | apply sp7) <;> intro hb) <;> (simp only [go_sem, hb])) | ((first | apply wm_done | apply wt_done | apply wg_run | refine fk ?_ ?_) <;> (simp only [go_sem]))) | (first | refine cdq ?_ (hc := h0) | refine cmq ?_ (hc := h0) | refine ctq ?_ (hc := h0)); (simp only [go_sem]) | (first | (refine wl_next (wg_run ?_); (simp only [go_sem])) | refine wd_rounds 6 ?_) | ((first | refine mxq6 [] ?_ | refine mxq5 [] ?_ | refine mxq4 [] ?_ | refine mxq3 [] ?_ | refine mxq2 [] ?_ | refine mxq1 [] ?_ | refine mxq0 [] ?_ | fail); (simp only [go_sem])) | fail)
    (refine hR _ (rat [] (hK := ⟨rfl, rfl⟩)))
  | fls =>
    intro l hw hn hl hz
    have h0 := iHasT (Tm.mk 4 ByteArray.empty 0 noTy noTy 0 [])
    simp only [Tm.kind] at h0
    simp only [E.wt, E.tm, nd]
    generalize tyR (l.map T.ty) = R at *
    refine fn_in ?_; refine acl_in Try.func110 rfl isfn_110 (Nat.le_of_ble_eq_true rfl) (fun R hR => ?_); rw [Try.results110] at hR; refine wg_run ?_; (simp only [Try.f110, go_sem])
    repeat' (first | (first | (((first | apply sp1 | apply sp2 | apply sp3 | apply sp4 | apply sp5 | apply sp6 | apply sp7) <;> intro hb) <;> (simp only [go_sem, hb])) | ((first | apply wm_done | apply wt_done | apply wg_run | refine fk ?_ ?_) <;> (simp only [go_sem]))) | (first | refine cdq ?_ (hc := h0) | refine cmq ?_ (hc := h0) | refine ctq ?_ (hc := h0)); (simp only [go_sem]) | (first | (refine wl_next (wg_run ?_); (simp only [go_sem])) | refine wd_rounds 6 ?_) | ((first | refine mxq6 [] ?_ | refine mxq5 [] ?_ | refine mxq4 [] ?_ | refine mxq3 [] ?_ | refine mxq2 [] ?_ | refine mxq1 [] ?_ | refine mxq0 [] ?_ | fail); (simp only [go_sem])) | fail)
    (refine hR _ (rat [] (hK := ⟨rfl, rfl⟩)))
  | lam x t a iha =>
    intro l hw hn hl hz
    simp only [E.wf, Bool.and_eq_true] at hw
    simp only [E.noC] at hn
    simp only [E.nt] at hz
    cases l with
    | nil => simp at hz
    | cons u l =>
    simp only [List.length_cons] at hz
    have hu := hl u (by simp)
    have hl := fun t ht => hl t (List.mem_cons_of_mem _ ht)
    have ho := iOwnT hu
    have htk : (tyR (l.map T.ty)).take (l.map T.ty).length = tyR (l.map T.ty) := List.take_of_length_le (by rw [tyR_length]; exact Nat.le_refl _)
    have h0 := iHasT (Tm.mk 5 (nm x) 0 t.ty noTy 0 [a.tm])
    simp only [Tm.kind] at h0
    have h1 := iha l hw.2.2 hn hl (by omega)
    simp only [E.wt, E.tm, nd, List.map_cons, tyR]
    refine fn_in ?_; refine acl_in Try.func110 rfl isfn_110 (Nat.le_of_ble_eq_true rfl) (fun R hR => ?_); rw [Try.results110] at hR; refine wg_run ?_; (simp only [Try.f110, go_sem])
    repeat' (first | (first | (simp only [go_sem, htk]) | (((first | apply sp1 | apply sp2 | apply sp3 | apply sp4 | apply sp5 | apply sp6 | apply sp7) <;> intro hb) <;> (simp only [go_sem, hb, htk])) | ((first | apply wm_done | apply wt_done | apply wg_run | refine fk ?_ ?_) <;> (simp only [go_sem, htk]))) | (first | refine cdq ?_ (hc := h0) | refine cmq ?_ (hc := h0) | refine ctq ?_ (hc := h0)); (simp only [go_sem]) | (first | (refine wl_next (wg_run ?_); (simp only [go_sem])) | refine wd_rounds 6 ?_) | (first | refine cdq ?_ (hc := ho) | refine cmq ?_ (hc := ho) | refine ctq ?_ (hc := ho)); (simp only [go_sem]) | (first | refine cdq ?_ (hc := h1) | refine cmq ?_ (hc := h1) | refine ctq ?_ (hc := h1)); (simp only [go_sem]) | ((first | refine mxq6 [] ?_ | refine mxq5 [] ?_ | refine mxq4 [] ?_ | refine mxq3 [] ?_ | refine mxq2 [] ?_ | refine mxq1 [] ?_ | refine mxq0 [] ?_ | fail); (simp only [go_sem])) | fail)
    (refine hR _ (rat [] (hK := ⟨rfl, rfl⟩)))
  | app a b iha ihb =>
    intro l hw hn hl hz
    simp only [E.wf, Bool.and_eq_true] at hw
    simp only [E.noC, Bool.and_eq_true] at hn
    simp only [E.nt] at hz
    have h0 := iHasT (Tm.mk 6 ByteArray.empty 0 noTy noTy 0 [a.tm, b.tm])
    simp only [Tm.kind] at h0
    have h1 := iha l hw.1 hn.1 hl (by omega)
    have hz1 := len_rest (e := a) (l := l) (by omega)
    have hl1 := mem_rest (e := a) (l := l) (by omega) hl
    have h2 := ihb (a.wt l).2 hw.2 hn.2 hl1 (by rw [hz1]; omega)
    simp only [E.wt, E.tm, nd]
    refine fn_in ?_; refine acl_in Try.func110 rfl isfn_110 (Nat.le_of_ble_eq_true rfl) (fun R hR => ?_); rw [Try.results110] at hR; refine wg_run ?_; (simp only [Try.f110, go_sem])
    repeat' (first | (first | (((first | apply sp1 | apply sp2 | apply sp3 | apply sp4 | apply sp5 | apply sp6 | apply sp7) <;> intro hb) <;> (simp only [go_sem, hb])) | ((first | apply wm_done | apply wt_done | apply wg_run | refine fk ?_ ?_) <;> (simp only [go_sem]))) | (first | refine cdq ?_ (hc := h0) | refine cmq ?_ (hc := h0) | refine ctq ?_ (hc := h0)); (simp only [go_sem]) | (first | (refine wl_next (wg_run ?_); (simp only [go_sem])) | refine wd_rounds 6 ?_) | (first | refine cdq ?_ (hc := h1) | refine cmq ?_ (hc := h1) | refine ctq ?_ (hc := h1)); (simp only [go_sem]) | (first | refine cdq ?_ (hc := h2) | refine cmq ?_ (hc := h2) | refine ctq ?_ (hc := h2)); (simp only [go_sem]) | ((first | refine mxq6 [] ?_ | refine mxq5 [] ?_ | refine mxq4 [] ?_ | refine mxq3 [] ?_ | refine mxq2 [] ?_ | refine mxq1 [] ?_ | refine mxq0 [] ?_ | fail); (simp only [go_sem])) | fail)
    (refine hR _ (rat [] (hK := ⟨rfl, rfl⟩)))
  | add a b iha ihb =>
    intro l hw hn hl hz
    simp only [E.wf, Bool.and_eq_true] at hw
    simp only [E.noC, Bool.and_eq_true] at hn
    simp only [E.nt] at hz
    have h0 := iHasT (Tm.mk 7 ByteArray.empty 0 noTy noTy 0 [a.tm, b.tm])
    simp only [Tm.kind] at h0
    have h1 := iha l hw.1 hn.1 hl (by omega)
    have hz1 := len_rest (e := a) (l := l) (by omega)
    have hl1 := mem_rest (e := a) (l := l) (by omega) hl
    have h2 := ihb (a.wt l).2 hw.2 hn.2 hl1 (by rw [hz1]; omega)
    simp only [E.wt, E.tm, nd]
    refine fn_in ?_; refine acl_in Try.func110 rfl isfn_110 (Nat.le_of_ble_eq_true rfl) (fun R hR => ?_); rw [Try.results110] at hR; refine wg_run ?_; (simp only [Try.f110, go_sem])
    repeat' (first | (first | (((first | apply sp1 | apply sp2 | apply sp3 | apply sp4 | apply sp5 | apply sp6 | apply sp7) <;> intro hb) <;> (simp only [go_sem, hb])) | ((first | apply wm_done | apply wt_done | apply wg_run | refine fk ?_ ?_) <;> (simp only [go_sem]))) | (first | refine cdq ?_ (hc := h0) | refine cmq ?_ (hc := h0) | refine ctq ?_ (hc := h0)); (simp only [go_sem]) | (first | (refine wl_next (wg_run ?_); (simp only [go_sem])) | refine wd_rounds 6 ?_) | (first | refine cdq ?_ (hc := h1) | refine cmq ?_ (hc := h1) | refine ctq ?_ (hc := h1)); (simp only [go_sem]) | (first | refine cdq ?_ (hc := h2) | refine cmq ?_ (hc := h2) | refine ctq ?_ (hc := h2)); (simp only [go_sem]) | ((first | refine mxq6 [] ?_ | refine mxq5 [] ?_ | refine mxq4 [] ?_ | refine mxq3 [] ?_ | refine mxq2 [] ?_ | refine mxq1 [] ?_ | refine mxq0 [] ?_ | fail); (simp only [go_sem])) | fail)
    (refine hR _ (rat [] (hK := ⟨rfl, rfl⟩)))
  | less a b iha ihb =>
    intro l hw hn hl hz
    simp only [E.wf, Bool.and_eq_true] at hw
    simp only [E.noC, Bool.and_eq_true] at hn
    simp only [E.nt] at hz
    have h0 := iHasT (Tm.mk 8 ByteArray.empty 0 noTy noTy 0 [a.tm, b.tm])
    simp only [Tm.kind] at h0
    have h1 := iha l hw.1 hn.1 hl (by omega)
    have hz1 := len_rest (e := a) (l := l) (by omega)
    have hl1 := mem_rest (e := a) (l := l) (by omega) hl
    have h2 := ihb (a.wt l).2 hw.2 hn.2 hl1 (by rw [hz1]; omega)
    simp only [E.wt, E.tm, nd]
    refine fn_in ?_; refine acl_in Try.func110 rfl isfn_110 (Nat.le_of_ble_eq_true rfl) (fun R hR => ?_); rw [Try.results110] at hR; refine wg_run ?_; (simp only [Try.f110, go_sem])
    repeat' (first | (first | (((first | apply sp1 | apply sp2 | apply sp3 | apply sp4 | apply sp5 | apply sp6 | apply sp7) <;> intro hb) <;> (simp only [go_sem, hb])) | ((first | apply wm_done | apply wt_done | apply wg_run | refine fk ?_ ?_) <;> (simp only [go_sem]))) | (first | refine cdq ?_ (hc := h0) | refine cmq ?_ (hc := h0) | refine ctq ?_ (hc := h0)); (simp only [go_sem]) | (first | (refine wl_next (wg_run ?_); (simp only [go_sem])) | refine wd_rounds 6 ?_) | (first | refine cdq ?_ (hc := h1) | refine cmq ?_ (hc := h1) | refine ctq ?_ (hc := h1)); (simp only [go_sem]) | (first | refine cdq ?_ (hc := h2) | refine cmq ?_ (hc := h2) | refine ctq ?_ (hc := h2)); (simp only [go_sem]) | ((first | refine mxq6 [] ?_ | refine mxq5 [] ?_ | refine mxq4 [] ?_ | refine mxq3 [] ?_ | refine mxq2 [] ?_ | refine mxq1 [] ?_ | refine mxq0 [] ?_ | fail); (simp only [go_sem])) | fail)
    (refine hR _ (rat [] (hK := ⟨rfl, rfl⟩)))
  | ite a b c iha ihb ihc =>
    intro l hw hn hl hz
    simp only [E.wf, Bool.and_eq_true] at hw
    simp only [E.noC, Bool.and_eq_true] at hn
    simp only [E.nt] at hz
    have h0 := iHasT (Tm.mk 9 ByteArray.empty 0 noTy noTy 0 [a.tm, b.tm, c.tm])
    simp only [Tm.kind] at h0
    have h1 := iha l hw.1 hn.1 hl (by omega)
    have hz1 := len_rest (e := a) (l := l) (by omega)
    have hl1 := mem_rest (e := a) (l := l) (by omega) hl
    have h2 := ihb (a.wt l).2 hw.2.1 hn.2.1 hl1 (by rw [hz1]; omega)
    have hz2 := len_rest (e := b) (l := (a.wt l).2) (by rw [hz1]; omega)
    have hl2 := mem_rest (e := b) (l := (a.wt l).2) (by rw [hz1]; omega) hl1
    have h3 := ihc (b.wt (a.wt l).2).2 hw.2.2 hn.2.2 hl2 (by rw [hz2, hz1]; omega)
    simp only [E.wt, E.tm, nd]
    refine fn_in ?_; refine acl_in Try.func110 rfl isfn_110 (Nat.le_of_ble_eq_true rfl) (fun R hR => ?_); rw [Try.results110] at hR; refine wg_run ?_; (simp only [Try.f110, go_sem])
    repeat' (first | (first | (((first | apply sp1 | apply sp2 | apply sp3 | apply sp4 | apply sp5 | apply sp6 | apply sp7) <;> intro hb) <;> (simp only [go_sem, hb])) | ((first | apply wm_done | apply wt_done | apply wg_run | refine fk ?_ ?_) <;> (simp only [go_sem]))) | (first | refine cdq ?_ (hc := h0) | refine cmq ?_ (hc := h0) | refine ctq ?_ (hc := h0)); (simp only [go_sem]) | (first | (refine wl_next (wg_run ?_); (simp only [go_sem])) | refine wd_rounds 6 ?_) | (first | refine cdq ?_ (hc := h1) | refine cmq ?_ (hc := h1) | refine ctq ?_ (hc := h1)); (simp only [go_sem]) | (first | refine cdq ?_ (hc := h2) | refine cmq ?_ (hc := h2) | refine ctq ?_ (hc := h2)); (simp only [go_sem]) | (first | refine cdq ?_ (hc := h3) | refine cmq ?_ (hc := h3) | refine ctq ?_ (hc := h3)); (simp only [go_sem]) | ((first | refine mxq6 [] ?_ | refine mxq5 [] ?_ | refine mxq4 [] ?_ | refine mxq3 [] ?_ | refine mxq2 [] ?_ | refine mxq1 [] ?_ | refine mxq0 [] ?_ | fail); (simp only [go_sem])) | fail)
    (refine hR _ (rat [] (hK := ⟨rfl, rfl⟩)))
  | pair a b iha ihb =>
    intro l hw hn hl hz
    simp only [E.wf, Bool.and_eq_true] at hw
    simp only [E.noC, Bool.and_eq_true] at hn
    simp only [E.nt] at hz
    have h0 := iHasT (Tm.mk 10 ByteArray.empty 0 noTy noTy 0 [a.tm, b.tm])
    simp only [Tm.kind] at h0
    have h1 := iha l hw.1 hn.1 hl (by omega)
    have hz1 := len_rest (e := a) (l := l) (by omega)
    have hl1 := mem_rest (e := a) (l := l) (by omega) hl
    have h2 := ihb (a.wt l).2 hw.2 hn.2 hl1 (by rw [hz1]; omega)
    simp only [E.wt, E.tm, nd]
    refine fn_in ?_; refine acl_in Try.func110 rfl isfn_110 (Nat.le_of_ble_eq_true rfl) (fun R hR => ?_); rw [Try.results110] at hR; refine wg_run ?_; (simp only [Try.f110, go_sem])
    repeat' (first | (first | (((first | apply sp1 | apply sp2 | apply sp3 | apply sp4 | apply sp5 | apply sp6 | apply sp7) <;> intro hb) <;> (simp only [go_sem, hb])) | ((first | apply wm_done | apply wt_done | apply wg_run | refine fk ?_ ?_) <;> (simp only [go_sem]))) | (first | refine cdq ?_ (hc := h0) | refine cmq ?_ (hc := h0) | refine ctq ?_ (hc := h0)); (simp only [go_sem]) | (first | (refine wl_next (wg_run ?_); (simp only [go_sem])) | refine wd_rounds 6 ?_) | (first | refine cdq ?_ (hc := h1) | refine cmq ?_ (hc := h1) | refine ctq ?_ (hc := h1)); (simp only [go_sem]) | (first | refine cdq ?_ (hc := h2) | refine cmq ?_ (hc := h2) | refine ctq ?_ (hc := h2)); (simp only [go_sem]) | ((first | refine mxq6 [] ?_ | refine mxq5 [] ?_ | refine mxq4 [] ?_ | refine mxq3 [] ?_ | refine mxq2 [] ?_ | refine mxq1 [] ?_ | refine mxq0 [] ?_ | fail); (simp only [go_sem])) | fail)
    (refine hR _ (rat [] (hK := ⟨rfl, rfl⟩)))
  | fst a iha =>
    intro l hw hn hl hz
    simp only [E.wf] at hw
    simp only [E.noC] at hn
    simp only [E.nt] at hz
    have h0 := iHasT (Tm.mk 11 ByteArray.empty 0 noTy noTy 0 [a.tm])
    simp only [Tm.kind] at h0
    have h1 := iha l hw hn hl (by omega)
    simp only [E.wt, E.tm, nd]
    refine fn_in ?_; refine acl_in Try.func110 rfl isfn_110 (Nat.le_of_ble_eq_true rfl) (fun R hR => ?_); rw [Try.results110] at hR; refine wg_run ?_; (simp only [Try.f110, go_sem])
    repeat' (first | (first | (((first | apply sp1 | apply sp2 | apply sp3 | apply sp4 | apply sp5 | apply sp6 | apply sp7) <;> intro hb) <;> (simp only [go_sem, hb])) | ((first | apply wm_done | apply wt_done | apply wg_run | refine fk ?_ ?_) <;> (simp only [go_sem]))) | (first | refine cdq ?_ (hc := h0) | refine cmq ?_ (hc := h0) | refine ctq ?_ (hc := h0)); (simp only [go_sem]) | (first | (refine wl_next (wg_run ?_); (simp only [go_sem])) | refine wd_rounds 6 ?_) | (first | refine cdq ?_ (hc := h1) | refine cmq ?_ (hc := h1) | refine ctq ?_ (hc := h1)); (simp only [go_sem]) | ((first | refine mxq6 [] ?_ | refine mxq5 [] ?_ | refine mxq4 [] ?_ | refine mxq3 [] ?_ | refine mxq2 [] ?_ | refine mxq1 [] ?_ | refine mxq0 [] ?_ | fail); (simp only [go_sem])) | fail)
    (refine hR _ (rat [] (hK := ⟨rfl, rfl⟩)))
  | snd a iha =>
    intro l hw hn hl hz
    simp only [E.wf] at hw
    simp only [E.noC] at hn
    simp only [E.nt] at hz
    have h0 := iHasT (Tm.mk 12 ByteArray.empty 0 noTy noTy 0 [a.tm])
    simp only [Tm.kind] at h0
    have h1 := iha l hw hn hl (by omega)
    simp only [E.wt, E.tm, nd]
    refine fn_in ?_; refine acl_in Try.func110 rfl isfn_110 (Nat.le_of_ble_eq_true rfl) (fun R hR => ?_); rw [Try.results110] at hR; refine wg_run ?_; (simp only [Try.f110, go_sem])
    repeat' (first | (first | (((first | apply sp1 | apply sp2 | apply sp3 | apply sp4 | apply sp5 | apply sp6 | apply sp7) <;> intro hb) <;> (simp only [go_sem, hb])) | ((first | apply wm_done | apply wt_done | apply wg_run | refine fk ?_ ?_) <;> (simp only [go_sem]))) | (first | refine cdq ?_ (hc := h0) | refine cmq ?_ (hc := h0) | refine ctq ?_ (hc := h0)); (simp only [go_sem]) | (first | (refine wl_next (wg_run ?_); (simp only [go_sem])) | refine wd_rounds 6 ?_) | (first | refine cdq ?_ (hc := h1) | refine cmq ?_ (hc := h1) | refine ctq ?_ (hc := h1)); (simp only [go_sem]) | ((first | refine mxq6 [] ?_ | refine mxq5 [] ?_ | refine mxq4 [] ?_ | refine mxq3 [] ?_ | refine mxq2 [] ?_ | refine mxq1 [] ?_ | refine mxq0 [] ?_ | fail); (simp only [go_sem])) | fail)
    (refine hR _ (rat [] (hK := ⟨rfl, rfl⟩)))
  | asc t a iha =>
    intro l hw hn hl hz
    simp only [E.wf, Bool.and_eq_true] at hw
    simp only [E.noC] at hn
    simp only [E.nt] at hz
    cases l with
    | nil => simp at hz
    | cons u l =>
    simp only [List.length_cons] at hz
    have hu := hl u (by simp)
    have hl := fun t ht => hl t (List.mem_cons_of_mem _ ht)
    have ho := iOwnT hu
    have htk : (tyR (l.map T.ty)).take (l.map T.ty).length = tyR (l.map T.ty) := List.take_of_length_le (by rw [tyR_length]; exact Nat.le_refl _)
    have h0 := iHasT (Tm.mk 13 ByteArray.empty 0 t.ty noTy 0 [a.tm])
    simp only [Tm.kind] at h0
    have h1 := iha l hw.2 hn hl (by omega)
    simp only [E.wt, E.tm, nd, List.map_cons, tyR]
    refine fn_in ?_; refine acl_in Try.func110 rfl isfn_110 (Nat.le_of_ble_eq_true rfl) (fun R hR => ?_); rw [Try.results110] at hR; refine wg_run ?_; (simp only [Try.f110, go_sem])
    repeat' (first | (first | (simp only [go_sem, htk]) | (((first | apply sp1 | apply sp2 | apply sp3 | apply sp4 | apply sp5 | apply sp6 | apply sp7) <;> intro hb) <;> (simp only [go_sem, hb, htk])) | ((first | apply wm_done | apply wt_done | apply wg_run | refine fk ?_ ?_) <;> (simp only [go_sem, htk]))) | (first | refine cdq ?_ (hc := h0) | refine cmq ?_ (hc := h0) | refine ctq ?_ (hc := h0)); (simp only [go_sem]) | (first | (refine wl_next (wg_run ?_); (simp only [go_sem])) | refine wd_rounds 6 ?_) | (first | refine cdq ?_ (hc := ho) | refine cmq ?_ (hc := ho) | refine ctq ?_ (hc := ho)); (simp only [go_sem]) | (first | refine cdq ?_ (hc := h1) | refine cmq ?_ (hc := h1) | refine ctq ?_ (hc := h1)); (simp only [go_sem]) | ((first | refine mxq6 [] ?_ | refine mxq5 [] ?_ | refine mxq4 [] ?_ | refine mxq3 [] ?_ | refine mxq2 [] ?_ | refine mxq1 [] ?_ | refine mxq0 [] ?_ | fail); (simp only [go_sem])) | fail)
    (refine hR _ (rat [] (hK := ⟨rfl, rfl⟩)))
  | cast s t k a ih => intro l hw hn; simp [E.noC] at hn
end Go.Proofs.Ytfgjiamolknicaa
/- Terms with other types: the plain law. -/
namespace Go.Proofs.Grad
/-- the types that a term mentions -/
def E.tl : E → List T
  | .var _ | .num _ | .tru | .fls => []
  | .lam _ t a | .asc t a => t :: a.tl
  | .fst a | .snd a | .cast _ _ _ a => a.tl
  | .app a b | .add a b | .less a b | .pair a b => a.tl ++ b.tl
  | .ite a b c => a.tl ++ (b.tl ++ c.tl)
theorem E.tl_length (e : E) : e.tl.length = e.nt := by
  induction e <;> simp_all [E.tl, E.nt] <;> omega
theorem E.types_tm (e : E) (h : e.noC = true) : e.tm.types = e.tl.map T.ty := by
  induction e with
  | cast _ _ _ a ih => simp [E.noC] at h
  | lam x t a ih | asc t a ih =>
    simp only [E.noC] at h
    have := ih h
    simp only [E.tm, Tm.types, Tm.typess, E.tl, List.map_cons, this, List.append_nil]; rfl
  | fst a ih | snd a ih =>
    simp only [E.noC] at h
    have := ih h
    simp only [E.tm, nd, Tm.types, Tm.typess, E.tl, this, List.append_nil]; rfl
  | app a b iha ihb | add a b iha ihb | less a b iha ihb | pair a b iha ihb =>
    simp only [E.noC, Bool.and_eq_true] at h
    have h1 := iha h.1
    have h2 := ihb h.2
    simp only [E.tm, nd, Tm.types, Tm.typess, E.tl, List.map_append, h1, h2, List.append_nil]; rfl
  | ite a b c iha ihb ihc =>
    simp only [E.noC, Bool.and_eq_true] at h
    have h1 := iha h.1
    have h2 := ihb h.2.1
    have h3 := ihc h.2.2
    simp only [E.tm, nd, Tm.types, Tm.typess, E.tl, List.map_append, h1, h2, h3, List.append_nil]; rfl
  | _ => rfl
theorem typesV_E {e : E} (h : e.okT = true) : e.tm.typesV = e.tl.map T.ty := by
  have h' := h
  simp only [E.okT, Bool.and_eq_true] at h'
  unfold Tm.typesV
  rw [E.termV_tm, h]
  exact E.types_tm e h'.2.1
theorem E.tl_depth (e : E) (h : e.wf = true) (hn : e.noC = true) : ∀ t ∈ e.tl, t.depth ≤ 4 := by
  induction e <;> simp_all [E.tl, E.wf, E.noC]
  all_goals grind
theorem E.wt_nodes (e : E) : ∀ l, (e.wt l).1.nodes = e.nodes := by
  induction e with
  | lam _ _ a ih | asc _ a ih => intro l; cases l <;> simp_all [E.wt, E.nodes]
  | _ => intro l; simp_all [E.wt, E.nodes]
theorem E.wt_depth (e : E) : ∀ l, (e.wt l).1.depth = e.depth := by
  induction e with
  | lam _ _ a ih | asc _ a ih => intro l; cases l <;> simp_all [E.wt, E.depth]
  | _ => intro l; simp_all [E.wt, E.depth]
theorem E.wt_noC (e : E) : ∀ l, (e.wt l).1.noC = e.noC := by
  induction e with
  | lam _ _ a ih | asc _ a ih => intro l; cases l <;> simp_all [E.wt, E.noC]
  | _ => intro l; simp_all [E.wt, E.noC]
theorem E.wt_nt (e : E) : ∀ l, (e.wt l).1.nt = e.nt := by
  induction e with
  | lam _ _ a ih | asc _ a ih => intro l; cases l <;> simp_all [E.wt, E.nt]
  | _ => intro l; simp_all [E.wt, E.nt]
theorem E.wt_wf (e : E) (h : e.wf = true) : ∀ l : List T, (∀ t ∈ l, t.depth ≤ 4) → (e.wt l).1.wf = true ∧ ∀ t ∈ (e.wt l).2, t.depth ≤ 4 := by
  induction e with
  | lam x t a ih =>
    simp only [E.wf, Bool.and_eq_true] at h
    intro l hl; cases l with
    | nil => simp [E.wt, E.wf, h]
    | cons u l =>
      have h1 := ih h.2.2 l (fun t ht => hl t (by simp [ht]))
      have h2 := hl u (by simp)
      exact ⟨by simp only [E.wt, E.wf, h.1, h1.1, decide_eq_true h2]; rfl, h1.2⟩
  | asc t a ih =>
    simp only [E.wf, Bool.and_eq_true] at h
    intro l hl; cases l with
    | nil => simp [E.wt, E.wf, h]
    | cons u l =>
      have h1 := ih h.2 l (fun t ht => hl t (by simp [ht]))
      have h2 := hl u (by simp)
      exact ⟨by simp only [E.wt, E.wf, h1.1, decide_eq_true h2]; rfl, h1.2⟩
  | app a b iha ihb | add a b iha ihb | less a b iha ihb | pair a b iha ihb =>
    simp only [E.wf, Bool.and_eq_true] at h
    intro l hl
    have h1 := iha h.1 l hl
    have h2 := ihb h.2 _ h1.2
    exact ⟨by simp only [E.wt, E.wf, h1.1, h2.1]; rfl, h2.2⟩
  | ite a b c iha ihb ihc =>
    simp only [E.wf, Bool.and_eq_true] at h
    intro l hl
    have h1 := iha h.1 l hl
    have h2 := ihb h.2.1 _ h1.2
    have h3 := ihc h.2.2 _ h2.2
    exact ⟨by simp only [E.wt, E.wf, h1.1, h2.1, h3.1]; rfl, h3.2⟩
  | fst a ih | snd a ih => intro l hl; exact ih h l hl
  | cast s t k a ih =>
    simp only [E.wf, Bool.and_eq_true] at h
    intro l hl
    have h1 := ih h.2.2.2 l hl
    exact ⟨by simp only [E.wt, E.wf, h1.1, h.1.1, h.1.2, h.2.1, h.2.2.1]; rfl, h1.2⟩
  | _ => intro l hl; exact ⟨h, hl⟩
theorem E.wt_okT {e : E} (h : e.okT = true) {l : List T} (hl : ∀ t ∈ l, t.depth ≤ 4) : (e.wt l).1.okT = true := by
  simp only [E.okT, Bool.and_eq_true] at h ⊢
  rw [E.wt_noC, E.wt_depth, E.wt_nodes]
  exact ⟨(E.wt_wf e h.1 l hl).1, h.2⟩
theorem E.wt_tl (e : E) : ∀ l : List T, e.nt ≤ l.length → (e.wt l).1.tl = l.take e.nt := by
  induction e with
  | lam x t a ih | asc t a ih =>
    intro l h
    cases l with
    | nil => simp [E.nt] at h
    | cons u l =>
      simp only [E.nt, List.length_cons] at h
      simp only [E.wt, E.nt, E.tl, ih l (by omega), Nat.add_comm 1, List.take_succ_cons]
  | app a b iha ihb | add a b iha ihb | less a b iha ihb | pair a b iha ihb =>
    intro l h
    simp only [E.nt] at h
    simp only [E.wt, E.nt, E.tl]
    rw [iha l (by omega), ihb _ (by rw [len_rest (by omega)]; omega), E.wt_rest a l (by omega), List.take_add]
  | ite a b c iha ihb ihc =>
    intro l h
    simp only [E.nt] at h
    simp only [E.wt, E.nt, E.tl]
    have h1 := len_rest (e := a) (l := l) (by omega)
    have h2 := len_rest (e := b) (l := (a.wt l).2) (by omega)
    rw [iha l (by omega), ihb _ (by omega), ihc _ (by omega), E.wt_rest b _ (by omega), E.wt_rest a l (by omega), List.take_add, List.take_add]
  | fst a ih | snd a ih | cast _ _ _ a ih => intro l h; exact ih l h
  | _ => intro l h; simp [E.wt, E.tl, E.nt]
theorem E.wt_wt (e : E) : ∀ l m : List T, e.nt ≤ l.length → e.nt ≤ m.length → (e.wt l).1.wt m = e.wt m := by
  induction e with
  | lam x t a ih | asc t a ih =>
    intro l m h h2
    cases l with
    | nil => simp [E.nt] at h
    | cons u l => cases m with
      | nil => simp [E.nt] at h2
      | cons v m =>
        simp only [E.nt, List.length_cons] at h h2
        simp only [E.wt, ih l m (by omega) (by omega)]
  | app a b iha ihb | add a b iha ihb | less a b iha ihb | pair a b iha ihb =>
    intro l m h g
    simp only [E.nt] at h g
    have h1 := len_rest (e := a) (l := l) (by omega)
    have g1 := len_rest (e := a) (l := m) (by omega)
    simp only [E.wt]
    rw [iha l m (by omega) (by omega), ihb _ _ (by omega) (by omega)]
  | ite a b c iha ihb ihc =>
    intro l m h g
    simp only [E.nt] at h g
    have h1 := len_rest (e := a) (l := l) (by omega)
    have g1 := len_rest (e := a) (l := m) (by omega)
    have h2 := len_rest (e := b) (l := (a.wt l).2) (by omega)
    have g2 := len_rest (e := b) (l := (a.wt m).2) (by omega)
    simp only [E.wt]
    rw [iha l m (by omega) (by omega), ihb _ _ (by omega) (by omega), ihc _ _ (by omega) (by omega)]
  | fst a ih | snd a ih | cast _ _ _ a ih => intro l m h g; simp only [E.wt, ih l m h g]
  | _ => intro l m h g; rfl
theorem E.wt_self (e : E) : ∀ r : List T, e.wt (e.tl ++ r) = (e, r) := by
  induction e with
  | lam x t a ih | asc t a ih => intro r; simp only [E.tl, List.cons_append, E.wt, ih r]
  | app a b iha ihb | add a b iha ihb | less a b iha ihb | pair a b iha ihb => intro r; simp only [E.tl, E.wt, List.append_assoc, iha, ihb]
  | ite a b c iha ihb ihc => intro r; simp only [E.tl, E.wt, List.append_assoc, iha, ihb, ihc]
  | fst a ih | snd a ih | cast _ _ _ a ih => intro r; simp only [E.tl, E.wt, ih]
  | _ => intro r; rfl
theorem E.wt_own (e : E) : (e.wt e.tl).1 = e := by have := e.wt_self []; rw [List.append_nil] at this; rw [this]
/-- a node without types -/
def E.era1 : E → E
  | .lam x _ a => .lam x .any a
  | .asc _ a => .asc .any a
  | e => e
theorem E.wt_any (e : E) : ∀ r, e.wt (List.replicate (e.nt + r) .any) = (e.mapE E.era1, List.replicate r .any) := by
  induction e with
  | lam x t a ih | asc t a ih =>
    intro r
    rw [show E.nt _ + r = (a.nt + r) + 1 from by simp only [E.nt]; omega, List.replicate_succ]
    simp only [E.wt, ih r, E.mapE, E.era1]
  | app a b iha ihb | add a b iha ihb | less a b iha ihb | pair a b iha ihb =>
    intro r
    rw [show E.nt _ + r = a.nt + (b.nt + r) from by simp only [E.nt]; omega]
    simp only [E.wt, iha, ihb, E.mapE, E.era1]
  | ite a b c iha ihb ihc =>
    intro r
    rw [show E.nt _ + r = a.nt + (b.nt + (c.nt + r)) from by simp only [E.nt]; omega]
    simp only [E.wt, iha, ihb, ihc, E.mapE, E.era1]
  | fst a ih | snd a ih | cast _ _ _ a ih =>
    intro r
    rw [show E.nt _ + r = a.nt + r from by simp only [E.nt]]
    simp only [E.wt, ih, E.mapE, E.era1]
  | _ => intro r; simp [E.wt, E.nt, E.mapE, E.era1]
/-- a list of types, those that a mask names replaced -/
def blurL (m : Nat) (l : List T) : List T := l.mapIdx (fun i t => match m.testBit i with | true => .any | false => t)
theorem blurL_length (m : Nat) (l : List T) : (blurL m l).length = l.length := by simp [blurL]
theorem blurL_depth (m : Nat) {l : List T} (h : ∀ t ∈ l, t.depth ≤ 4) : ∀ t ∈ blurL m l, t.depth ≤ 4 := by
  intro t ht
  obtain ⟨i, hi, rfl⟩ := List.getElem_of_mem ht
  simp only [blurL, List.getElem_mapIdx]
  split
  · decide
  · exact h _ (List.getElem_mem _)
theorem blurL_full (l : List T) : blurL (2 ^ l.length - 1) l = List.replicate l.length .any := by
  refine List.ext_getElem (by simp [blurL_length]) fun i h1 h2 => ?_
  rw [blurL_length] at h1
  simp [blurL, Nat.testBit_two_pow_sub_one, h1]
/-- a term, blurred -/
def E.blur (e : E) (m : Nat) : E := (e.wt (blurL m e.tl)).1
theorem E.blur_full (e : E) : e.blur (2 ^ e.nt - 1) = e.mapE E.era1 := by
  rw [E.blur, ← E.tl_length, blurL_full, E.tl_length]
  have := e.wt_any 0
  rw [Nat.add_zero] at this; rw [this]
theorem T.ty_s16 {t : T} (h : t.depth ≤ 4) : t.ty.size < 16 := by
  have : ∀ (x : T) (d : Nat), x.depth ≤ d → d ≤ 4 → x.size < 2 ^ d := by
    intro x
    induction x with
    | any | int | bool => intro d h1 h2; simp only [T.depth, T.size] at *; exact Nat.one_lt_two_pow (by omega)
    | fn a b iha ihb | pr a b iha ihb =>
      intro d h1 h2
      simp only [T.depth, T.size] at *
      obtain ⟨d, rfl⟩ : ∃ e, d = e + 1 := ⟨d - 1, by omega⟩
      have := iha d (by omega) (by omega); have := ihb d (by omega) (by omega)
      rw [Nat.pow_succ]; omega
  have := this t 4 h (Nat.le_refl _)
  rw [T.ty_size]; omega
theorem E.size_w (e : E) (h : e.wf = true) : e.tm.size ≤ 40 * e.nodes := by
  induction e with
  | var _ | num _ | tru | fls => simp [E.tm, nd, Tm.size, Tm.sizes, noTy, Ty.size, Ty.sizes, E.nodes]
  | lam x t a ih =>
    simp only [E.wf, Bool.and_eq_true, decide_eq_true_eq] at h
    have := T.ty_s16 h.2.1; have := ih h.2.2
    simp only [E.tm, Tm.size, Tm.sizes, noTy, Ty.size, Ty.sizes, E.nodes]; omega
  | app a b iha ihb | add a b iha ihb | less a b iha ihb | pair a b iha ihb =>
    simp only [E.wf, Bool.and_eq_true] at h
    have := iha h.1; have := ihb h.2
    simp only [E.tm, nd, Tm.size, Tm.sizes, noTy, Ty.size, Ty.sizes, E.nodes]; omega
  | ite a b c iha ihb ihc =>
    simp only [E.wf, Bool.and_eq_true] at h
    have := iha h.1; have := ihb h.2.1; have := ihc h.2.2
    simp only [E.tm, nd, Tm.size, Tm.sizes, noTy, Ty.size, Ty.sizes, E.nodes]; omega
  | fst a ih | snd a ih =>
    simp only [E.wf] at h
    have := ih h
    simp only [E.tm, nd, Tm.size, Tm.sizes, noTy, Ty.size, Ty.sizes, E.nodes]; omega
  | asc t a ih =>
    simp only [E.wf, Bool.and_eq_true, decide_eq_true_eq] at h
    have := T.ty_s16 h.1; have := ih h.2
    simp only [E.tm, Tm.size, Tm.sizes, noTy, Ty.size, Ty.sizes, E.nodes]; omega
  | cast s t l a ih =>
    simp only [E.wf, Bool.and_eq_true, decide_eq_true_eq] at h
    have := T.ty_s16 h.1.1; have := T.ty_s16 h.1.2; have := ih h.2.2.2
    simp only [E.tm, Tm.size, Tm.sizes, noTy, Ty.size, Ty.sizes, E.nodes]; omega
theorem E.size_okT {e : E} (h : e.okT = true) : e.tm.size ≤ 1200 := by
  simp only [E.okT, Bool.and_eq_true, decide_eq_true_eq] at h
  have := e.size_w h.1
  omega
end Go.Proofs.Grad
