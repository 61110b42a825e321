/- Texts of the proof, one behind another. -/
import Derived.Test.YtnaebafafhamjaaKX13
import Derived.Test.YtnaebafafhamjaaKX15
import Derived.Test.YtnaebafafhamjaaKX16
set_option linter.unusedSimpArgs false
set_option linter.unusedVariables false
/- Casts put in: one cast; the types wanted of operands. In the reference, on shadows. -/
namespace Go.Proofs.Grad
/-- a term cast from a type to another one, if they differ, and the next label -/
def casT (x : Tm) (s t : T) (n : Int) : Tm × Int := match s.eqb t with | true => (x, n) | false => (.mk 14 ByteArray.empty 0 t.ty s.ty n [x], n + 1)
theorem casT_size (x : Tm) {s t : T} (hs : s.depth ≤ 4) (ht : t.depth ≤ 4) (n : Int) : (casT x s t n).1.size ≤ x.size + 31 ∧ n ≤ (casT x s t n).2 ∧ (casT x s t n).2 ≤ n + 1 := by
  have h1 := T.ty_size16 hs
  have h2 := T.ty_size16 ht
  unfold casT
  split
  · exact ⟨by simp only []; omega, by simp only []; omega, by simp only []; omega⟩
  · exact ⟨by simp only [Tm.size, Tm.sizes]; omega, by simp only []; omega, by simp only []; omega⟩
end Go.Proofs.Grad
namespace Go.Proofs.Ytnaebafafhamjaa
open Go.RowKit Go.Proofs.Sh Go.Proofs.Grad
set_option maxRecDepth 100000
set_option maxHeartbeats 8000000
theorem sSameT {a b : T} (ha : a.depth ≤ 4) : AFn Try.prog 95 [.agg (tyC a.ty), .agg (tyC b.ty)] (.one (.sc (.bool (a.eqb b)))) := sSame 1000000 (by omega) a.ty b.ty (by have := T.ty_size16 ha; omega)
theorem l4Cast (x : Tm) (s t : T) (hs : s.depth ≤ 4) (ht : t.depth ≤ 4) (n : Int) (h1 : -1000000000000 ≤ n) (h2 : n ≤ 1000000000000) : AFn Try.prog 143 [.agg (teC x), .agg (tyC s.ty), .agg (tyC t.ty), .one (.sc (.int .i64 n))] (.tup [.agg (teC (casT x s t n).1), .one (.sc (.int .i64 (casT x s t n).2))]) := by
  have he := sSameT (b := t) hs
  have hc1 := sCopyT hs
  have hc2 := sCopyT ht
  have hw : IntKind.i64.wrap (n + 1) = n + 1 := IntWalk.i64_in _ (by omega)
  unfold casT
  cases e : s.eqb t
  all_goals
    rw [e] at he
    refine fn_in ?_; refine acl_in Try.func143 rfl isfn_143 (Nat.le_of_ble_eq_true rfl) (fun R hR => ?_); rw [Try.results143] at hR; refine wg_run ?_; (simp only [Try.f143, go_sem, hw])
    repeat' (first | (first | (simp only [go_sem, hw]) | (((first | apply sp1 | apply sp2 | apply sp3 | apply sp4 | apply sp5 | apply sp6 | apply sp7) <;> intro hb) <;> (simp only [go_sem, hb, hw])) | ((first | apply wm_done | apply wt_done | apply wg_run | refine fk ?_ ?_) <;> (simp only [go_sem, hw]))) | (first | refine cdq ?_ (hc := he) | refine cmq ?_ (hc := he) | refine ctq ?_ (hc := he)); (simp only [go_sem]) | ((first | refine mxq6 [] ?_ | refine mxq5 [] ?_ | refine mxq4 [] ?_ | refine mxq3 [] ?_ | refine mxq2 [] ?_ | refine mxq1 [] ?_ | refine mxq0 [] ?_ | fail); (simp only [go_sem, hw])) | (first | refine cdq ?_ (hc := hc1) | refine cmq ?_ (hc := hc1) | refine ctq ?_ (hc := hc1)); (simp only [go_sem]) | (first | refine cdq ?_ (hc := hc2) | refine cmq ?_ (hc := hc2) | refine ctq ?_ (hc := hc2)); (simp only [go_sem]) | (first | (refine tr (.op 0 false (.op 2 false (.op 4 false (.op 5 false (.op 8 false (.op 9 false (.fork 1 false (.fork 3 false (.op 6 false (.op 7 false (.op 10 true (.op 11 false .nil)))) (.op 6 false (.op 3 false (.op 7 false (.op 10 true (.op 11 false .nil)))))) (.op 6 false (.op 1 false (.op 3 false (.op 7 false (.op 10 true (.op 11 false .nil))))))))))))) [] follows ?_; (simp only [go_sem, hw])) | fail) | fail)
    all_goals (refine hR _ ?_; refine rat [] (hK := ⟨rfl, rfl⟩))
theorem want6 (t : Tm) (h : t.kind = 6) (s u v : T) (p q : T) (hm : s.mfn = some (p, q)) (hs : s.depth ≤ 4) : AFn Try.prog 181 [.agg (teC t), .one (.sl [tyC s.ty, tyC u.ty]), .agg (tyC v.ty)] (.one (.sl [tyC (T.fn p q).ty, tyC p.ty])) := by
  have h1 := l3MatchF s hs
  rw [hm] at h1
  simp only [tyO2] at h1
  have hd := T.mfn_depth hm hs
  have h2 := l3TwoF p q hd.1 hd.2
  refine fn_in ?_; refine acl_in Try.func181 rfl isfn_181 (Nat.le_of_ble_eq_true rfl) (fun R hR => ?_); rw [Try.results181] at hR; refine wg_run ?_; (simp only [Try.f181, go_sem, h])
  repeat' (first | (first | (simp only [go_sem, h]) | (((first | apply sp1 | apply sp2 | apply sp3 | apply sp4 | apply sp5 | apply sp6 | apply sp7) <;> intro hb) <;> (simp only [go_sem, hb, h])) | ((first | apply wm_done | apply wt_done | apply wg_run | refine fk ?_ ?_) <;> (simp only [go_sem, h]))) | ((first | refine mxq6 [] ?_ | refine mxq5 [] ?_ | refine mxq4 [] ?_ | refine mxq3 [] ?_ | refine mxq2 [] ?_ | refine mxq1 [] ?_ | refine mxq0 [] ?_ | fail); (simp only [go_sem])) | (first | refine cdq ?_ (hc := h1) | refine cmq ?_ (hc := h1) | refine ctq ?_ (hc := h1)); (simp only [go_sem]) | (first | refine cdq ?_ (hc := h2) | refine cmq ?_ (hc := h2) | refine ctq ?_ (hc := h2)); (simp only [go_sem]) | fail)
  all_goals (refine hR _ ?_; refine rat [] (hK := ⟨rfl, rfl⟩))
theorem want7 (t : Tm) (h : t.kind = 7) (s u v : T)  : AFn Try.prog 181 [.agg (teC t), .one (.sl [tyC s.ty, tyC u.ty]), .agg (tyC v.ty)] (.one (.sl [tyC T.int.ty, tyC T.int.ty])) := by
  have hi := sIntT
  refine fn_in ?_; refine acl_in Try.func181 rfl isfn_181 (Nat.le_of_ble_eq_true rfl) (fun R hR => ?_); rw [Try.results181] at hR; refine wg_run ?_; (simp only [Try.f181, go_sem, h])
  repeat' (first | (first | (simp only [go_sem, h]) | (((first | apply sp1 | apply sp2 | apply sp3 | apply sp4 | apply sp5 | apply sp6 | apply sp7) <;> intro hb) <;> (simp only [go_sem, hb, h])) | ((first | apply wm_done | apply wt_done | apply wg_run | refine fk ?_ ?_) <;> (simp only [go_sem, h]))) | ((first | refine mxq6 [] ?_ | refine mxq5 [] ?_ | refine mxq4 [] ?_ | refine mxq3 [] ?_ | refine mxq2 [] ?_ | refine mxq1 [] ?_ | refine mxq0 [] ?_ | fail); (simp only [go_sem])) | (first | refine cdq ?_ (hc := hi) | refine cmq ?_ (hc := hi) | refine ctq ?_ (hc := hi)); (simp only [go_sem]) | fail)
  all_goals (refine hR _ ?_; refine rat [] (hK := ⟨rfl, rfl⟩))
theorem want8 (t : Tm) (h : t.kind = 8) (s u v : T)  : AFn Try.prog 181 [.agg (teC t), .one (.sl [tyC s.ty, tyC u.ty]), .agg (tyC v.ty)] (.one (.sl [tyC T.int.ty, tyC T.int.ty])) := by
  have hi := sIntT
  refine fn_in ?_; refine acl_in Try.func181 rfl isfn_181 (Nat.le_of_ble_eq_true rfl) (fun R hR => ?_); rw [Try.results181] at hR; refine wg_run ?_; (simp only [Try.f181, go_sem, h])
  repeat' (first | (first | (simp only [go_sem, h]) | (((first | apply sp1 | apply sp2 | apply sp3 | apply sp4 | apply sp5 | apply sp6 | apply sp7) <;> intro hb) <;> (simp only [go_sem, hb, h])) | ((first | apply wm_done | apply wt_done | apply wg_run | refine fk ?_ ?_) <;> (simp only [go_sem, h]))) | ((first | refine mxq6 [] ?_ | refine mxq5 [] ?_ | refine mxq4 [] ?_ | refine mxq3 [] ?_ | refine mxq2 [] ?_ | refine mxq1 [] ?_ | refine mxq0 [] ?_ | fail); (simp only [go_sem])) | (first | refine cdq ?_ (hc := hi) | refine cmq ?_ (hc := hi) | refine ctq ?_ (hc := hi)); (simp only [go_sem]) | fail)
  all_goals (refine hR _ ?_; refine rat [] (hK := ⟨rfl, rfl⟩))
theorem want9 (t : Tm) (h : t.kind = 9) (s u w v : T)  : AFn Try.prog 181 [.agg (teC t), .one (.sl [tyC s.ty, tyC u.ty, tyC w.ty]), .agg (tyC v.ty)] (.one (.sl [tyC T.bool.ty, tyC v.ty, tyC v.ty])) := by
  have hi := sBoolT
  refine fn_in ?_; refine acl_in Try.func181 rfl isfn_181 (Nat.le_of_ble_eq_true rfl) (fun R hR => ?_); rw [Try.results181] at hR; refine wg_run ?_; (simp only [Try.f181, go_sem, h])
  repeat' (first | (first | (simp only [go_sem, h]) | (((first | apply sp1 | apply sp2 | apply sp3 | apply sp4 | apply sp5 | apply sp6 | apply sp7) <;> intro hb) <;> (simp only [go_sem, hb, h])) | ((first | apply wm_done | apply wt_done | apply wg_run | refine fk ?_ ?_) <;> (simp only [go_sem, h]))) | ((first | refine mxq6 [] ?_ | refine mxq5 [] ?_ | refine mxq4 [] ?_ | refine mxq3 [] ?_ | refine mxq2 [] ?_ | refine mxq1 [] ?_ | refine mxq0 [] ?_ | fail); (simp only [go_sem])) | (first | refine cdq ?_ (hc := hi) | refine cmq ?_ (hc := hi) | refine ctq ?_ (hc := hi)); (simp only [go_sem]) | fail)
  all_goals (refine hR _ ?_; refine rat [] (hK := ⟨rfl, rfl⟩))
theorem want10 (t : Tm) (h : t.kind = 10) (s u v : T)  : AFn Try.prog 181 [.agg (teC t), .one (.sl [tyC s.ty, tyC u.ty]), .agg (tyC v.ty)] (.one (.sl [tyC s.ty, tyC u.ty])) := by
  refine fn_in ?_; refine acl_in Try.func181 rfl isfn_181 (Nat.le_of_ble_eq_true rfl) (fun R hR => ?_); rw [Try.results181] at hR; refine wg_run ?_; (simp only [Try.f181, go_sem, h])
  repeat' (first | (first | (simp only [go_sem, h]) | (((first | apply sp1 | apply sp2 | apply sp3 | apply sp4 | apply sp5 | apply sp6 | apply sp7) <;> intro hb) <;> (simp only [go_sem, hb, h])) | ((first | apply wm_done | apply wt_done | apply wg_run | refine fk ?_ ?_) <;> (simp only [go_sem, h]))) | fail)
  all_goals (refine hR _ ?_; refine rat [] (hK := ⟨rfl, rfl⟩))
theorem want5 (t : Tm) (h : t.kind = 5) (s v : T)  : AFn Try.prog 181 [.agg (teC t), .one (.sl [tyC s.ty]), .agg (tyC v.ty)] (.one (.sl [tyC s.ty])) := by
  refine fn_in ?_; refine acl_in Try.func181 rfl isfn_181 (Nat.le_of_ble_eq_true rfl) (fun R hR => ?_); rw [Try.results181] at hR; refine wg_run ?_; (simp only [Try.f181, go_sem, h])
  repeat' (first | (first | (simp only [go_sem, h]) | (((first | apply sp1 | apply sp2 | apply sp3 | apply sp4 | apply sp5 | apply sp6 | apply sp7) <;> intro hb) <;> (simp only [go_sem, hb, h])) | ((first | apply wm_done | apply wt_done | apply wg_run | refine fk ?_ ?_) <;> (simp only [go_sem, h]))) | fail)
  all_goals (refine hR _ ?_; refine rat [] (hK := ⟨rfl, rfl⟩))
theorem want11 (t : Tm) (h : t.kind = 11) (s v : T) (p q : T) (hm : s.mpr = some (p, q)) (hs : s.depth ≤ 4) : AFn Try.prog 181 [.agg (teC t), .one (.sl [tyC s.ty]), .agg (tyC v.ty)] (.one (.sl [tyC (T.pr p q).ty])) := by
  have h1 := l3MatchP s hs
  rw [hm] at h1
  simp only [tyO2] at h1
  have hd := T.mpr_depth hm hs
  have h2 := l3TwoP p q hd.1 hd.2
  refine fn_in ?_; refine acl_in Try.func181 rfl isfn_181 (Nat.le_of_ble_eq_true rfl) (fun R hR => ?_); rw [Try.results181] at hR; refine wg_run ?_; (simp only [Try.f181, go_sem, h])
  repeat' (first | (first | (simp only [go_sem, h]) | (((first | apply sp1 | apply sp2 | apply sp3 | apply sp4 | apply sp5 | apply sp6 | apply sp7) <;> intro hb) <;> (simp only [go_sem, hb, h])) | ((first | apply wm_done | apply wt_done | apply wg_run | refine fk ?_ ?_) <;> (simp only [go_sem, h]))) | ((first | refine mxq6 [] ?_ | refine mxq5 [] ?_ | refine mxq4 [] ?_ | refine mxq3 [] ?_ | refine mxq2 [] ?_ | refine mxq1 [] ?_ | refine mxq0 [] ?_ | fail); (simp only [go_sem])) | (first | refine cdq ?_ (hc := h1) | refine cmq ?_ (hc := h1) | refine ctq ?_ (hc := h1)); (simp only [go_sem]) | (first | refine cdq ?_ (hc := h2) | refine cmq ?_ (hc := h2) | refine ctq ?_ (hc := h2)); (simp only [go_sem]) | fail)
  all_goals (refine hR _ ?_; refine rat [] (hK := ⟨rfl, rfl⟩))
theorem want12 (t : Tm) (h : t.kind = 12) (s v : T) (p q : T) (hm : s.mpr = some (p, q)) (hs : s.depth ≤ 4) : AFn Try.prog 181 [.agg (teC t), .one (.sl [tyC s.ty]), .agg (tyC v.ty)] (.one (.sl [tyC (T.pr p q).ty])) := by
  have h1 := l3MatchP s hs
  rw [hm] at h1
  simp only [tyO2] at h1
  have hd := T.mpr_depth hm hs
  have h2 := l3TwoP p q hd.1 hd.2
  refine fn_in ?_; refine acl_in Try.func181 rfl isfn_181 (Nat.le_of_ble_eq_true rfl) (fun R hR => ?_); rw [Try.results181] at hR; refine wg_run ?_; (simp only [Try.f181, go_sem, h])
  repeat' (first | (first | (simp only [go_sem, h]) | (((first | apply sp1 | apply sp2 | apply sp3 | apply sp4 | apply sp5 | apply sp6 | apply sp7) <;> intro hb) <;> (simp only [go_sem, hb, h])) | ((first | apply wm_done | apply wt_done | apply wg_run | refine fk ?_ ?_) <;> (simp only [go_sem, h]))) | ((first | refine mxq6 [] ?_ | refine mxq5 [] ?_ | refine mxq4 [] ?_ | refine mxq3 [] ?_ | refine mxq2 [] ?_ | refine mxq1 [] ?_ | refine mxq0 [] ?_ | fail); (simp only [go_sem])) | (first | refine cdq ?_ (hc := h1) | refine cmq ?_ (hc := h1) | refine ctq ?_ (hc := h1)); (simp only [go_sem]) | (first | refine cdq ?_ (hc := h2) | refine cmq ?_ (hc := h2) | refine ctq ?_ (hc := h2)); (simp only [go_sem]) | fail)
  all_goals (refine hR _ ?_; refine rat [] (hK := ⟨rfl, rfl⟩))
theorem want13 (t : Tm) (h : t.kind = 13) (s v : T)  : AFn Try.prog 181 [.agg (teC t), .one (.sl [tyC s.ty]), .agg (tyC v.ty)] (.one (.sl [tyC v.ty])) := by
  refine fn_in ?_; refine acl_in Try.func181 rfl isfn_181 (Nat.le_of_ble_eq_true rfl) (fun R hR => ?_); rw [Try.results181] at hR; refine wg_run ?_; (simp only [Try.f181, go_sem, h])
  repeat' (first | (first | (simp only [go_sem, h]) | (((first | apply sp1 | apply sp2 | apply sp3 | apply sp4 | apply sp5 | apply sp6 | apply sp7) <;> intro hb) <;> (simp only [go_sem, hb, h])) | ((first | apply wm_done | apply wt_done | apply wg_run | refine fk ?_ ?_) <;> (simp only [go_sem, h]))) | fail)
  all_goals (refine hR _ ?_; refine rat [] (hK := ⟨rfl, rfl⟩))
theorem want0 (t : Tm) (h : t.kind = 1 ∨ t.kind = 2 ∨ t.kind = 3 ∨ t.kind = 4) (v : T) : AFn Try.prog 181 [.agg (teC t), .one (.sl []), .agg (tyC v.ty)] (.one (.sl [])) := by
  rcases h with h | h | h | h
  all_goals
    refine fn_in ?_; refine acl_in Try.func181 rfl isfn_181 (Nat.le_of_ble_eq_true rfl) (fun R hR => ?_); rw [Try.results181] at hR; refine wg_run ?_; (simp only [Try.f181, go_sem, h])
    repeat' (first | (first | (simp only [go_sem, h]) | (((first | apply sp1 | apply sp2 | apply sp3 | apply sp4 | apply sp5 | apply sp6 | apply sp7) <;> intro hb) <;> (simp only [go_sem, hb, h])) | ((first | apply wm_done | apply wt_done | apply wg_run | refine fk ?_ ?_) <;> (simp only [go_sem, h]))) | fail)
    all_goals (refine hR _ ?_; refine rat [] (hK := ⟨rfl, rfl⟩))
end Go.Proofs.Ytnaebafafhamjaa
