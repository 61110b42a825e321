/- Texts of the proof, one behind another. -/
import Derived.Test.YtnaebafafhamjaaKZ12
import Derived.Test.YtnaebafafhamjaaKZ13
import Derived.Test.YtnaebafafhamjaaKZ14
set_option linter.unusedSimpArgs false
set_option linter.unusedVariables false
/- Typing in the reference: contexts, operands of types, meets. On shadows. -/
namespace Go.Proofs.Grad
end Go.Proofs.Grad
namespace Go.Proofs.Ytnaebafafhamjaa
open Go.RowKit Go.Proofs.Sh Go.Proofs.Grad
set_option maxRecDepth 100000
set_option maxHeartbeats 8000000
/-- a type, or none -/
def tyO (o : Option T) : AV := match o with | some t => .tup [.agg (tyC t.ty), .one (.sc (.bool true))] | none => .tup [.agg (tyC noTy), .one (.sc (.bool false))]
def tyO2 (o : Option (T × T)) : AV := match o with | some (p, q) => .tup [.agg (tyC p.ty), .agg (tyC q.ty), .one (.sc (.bool true))] | none => .tup [.agg (tyC noTy), .agg (tyC noTy), .one (.sc (.bool false))]
/-- a type and true, or something and false -/
def TyR (o : Option T) (r : AV) (H' : List Blk) : Prop := (∃ t, o = some t ∧ r = .tup [.agg (tyC t.ty), .one (.sc (.bool true))] ∧ H' = []) ∨ (o = none ∧ ∃ y : Ty, y.size < 100000 ∧ r = .tup [.agg (tyC y), .one (.sc (.bool false))] ∧ H' = [])
theorem sCopyT {t : T} (h : t.depth ≤ 4) : AFn Try.prog 98 [.agg (tyC t.ty)] (.agg (tyC t.ty)) := l1Copy 1000 (by omega) t.ty (T.ty_small h)
theorem l3Look (Γ : Ctx) (hl : Γ.length < 100000) (hd : ctxOk Γ) (x : UInt8) : AFn Try.prog 128 [.one (.sl (bdR Γ)), .one (.sc (.string (nm x)))] (tyO (look1 Γ x)) := by
  have hw0 := prevI_wrap (n := Γ.length) (by omega)
  refine fn_in ?_; refine acl_in Try.func128 rfl isfn_128 (Nat.le_of_ble_eq_true rfl) (fun R hR => ?_); rw [Try.results128] at hR; refine wg_run ?_; (simp only [Try.f128, go_sem, hw0])
  refine wd_for [0, 1, 4, 5, 6] (fun k => [.one (.sl (bdR Γ)), .one (.sc (.string (nm x))), .one (.ptr 2 0 0 0), .one (.sc (.bool false)), .one (.sc (.int .i64 (prevI k)))]) (fun _ => [⟨2, 25, .mut, [[.sc (.int .i64 0), .sc (.slice none 0 0)]]⟩])
    (fun k => k ≤ Γ.length ∧ look1 (Γ.drop k) x = none) (fun k => k) Γ.length ⟨Nat.le_refl _, by simp [look1]⟩ (hat [0] (hI := ⟨rfl, rfl⟩)) ?_
  rintro (_ | k) ⟨hk, hs⟩ G hG
  · refine wg_run ?_
    (simp only [go_sem])
    repeat' (first | (((first | apply sp1 | apply sp2 | apply sp3 | apply sp4 | apply sp5 | apply sp6 | apply sp7) <;> intro hb) <;> (simp only [go_sem, hb])) | ((first | apply wm_done | apply wt_done | apply wg_run | refine fk ?_ ?_) <;> (simp only [go_sem])))
    rw [List.drop_zero] at hs
    (refine hR _ ?_; refine rat [] (hK := ⟨?_, rfl⟩))
    rw [hs]; rfl
  · refine wg_run ?_
    have hk1 : k < Γ.length := by omega
    have hk2 : decide ((k : Int) < (Γ.length : Int)) = true := by simp; omega
    have hk3 : decide ((k : Int) ≥ 0) = true := by simp
    have hk4 : decide ((0 : Int) ≤ (k : Int)) = true := by simp
    have hw1 := prevI_wrap (n := k) (by omega)
    have hn := nmq (bd Γ k).1 x
    have hdr := bd_drop hk1
    have hmem : bd Γ k ∈ Γ := by
      have : bd Γ k = Γ[k] := by simp [bd, hk1]
      rw [this]; exact List.getElem_mem hk1
    have hc := sCopyT (hd _ hmem)
    cases e1 : ((bd Γ k).1 == x)
    all_goals
      rw [e1] at hn
      (simp only [go_sem, hk2, hk3, hk4, hn])
      repeat' (first | (first | (simp only [go_sem, hk2, hk3, hk4, hn, hw1]) | (((first | apply sp1 | apply sp2 | apply sp3 | apply sp4 | apply sp5 | apply sp6 | apply sp7) <;> intro hb) <;> (simp only [go_sem, hb, hk2, hk3, hk4, hn, hw1])) | ((first | apply wm_done | apply wt_done | apply wg_run | refine fk ?_ ?_) <;> (simp only [go_sem, hk2, hk3, hk4, hn, hw1]))) | (first | refine cdq ?_ (hc := hc) | refine cmq ?_ (hc := hc) | refine ctq ?_ (hc := hc)); (simp only [go_sem]))
    · exact hG k _ _ ⟨by omega, by rw [hdr, look1_cons, hs, e1]⟩ (by omega) (hat [0] (hI := ⟨rfl, rfl⟩))
    · have hlk : look1 (Γ.drop k) x = some (bd Γ k).2 := by rw [hdr, look1_cons, hs, e1]
      have hlk2 := look1_drop x _ k Γ hlk
      (refine hR _ ?_; refine rat [] (hK := ⟨?_, rfl⟩))
      rw [hlk2]; rfl
end Go.Proofs.Ytnaebafafhamjaa
/- Typing in the reference: contexts grow. On shadows. -/
namespace Go.Proofs.Ytnaebafafhamjaa
open Go.RowKit Go.Proofs.Sh Go.Proofs.Grad
set_option maxRecDepth 100000
set_option maxHeartbeats 8000000
theorem cap48 {n : Nat} (h : n < 100000) : (n + 1) * 48 ≤ 140737488355328 := by omega
theorem l3More (Γ : Ctx) (hl : Γ.length < 100000) (x : UInt8) (t : T) : AFn Try.prog 164 [.one (.sl (bdR Γ)), .one (.sc (.string (nm x))), .agg (tyC t.ty)] (.one (.sl (bdR (Γ ++ [(x, t)])))) := by
  rw [bdR_snoc]
  have e1 : bdC (x, t) = .sc (.string (nm x)) :: tyC t.ty := rfl
  cases Γ with
  | nil =>
    refine fn_in ?_; refine acl_in Try.func164 rfl isfn_164 (Nat.le_of_ble_eq_true rfl) (fun R hR => ?_); rw [Try.results164] at hR; refine wg_run ?_; (simp only [Try.f164, go_sem])
    repeat' (first | (first | (((first | apply sp1 | apply sp2 | apply sp3 | apply sp4 | apply sp5 | apply sp6 | apply sp7) <;> intro hb) <;> (simp only [go_sem, hb])) | ((first | apply wm_done | apply wt_done | apply wg_run | refine fk ?_ ?_) <;> (simp only [go_sem]))) | (first | (refine tr (.op 1 false (.op 3 false (.op 4 false (.op 5 false (.fork 0 false (.fork 2 false (.op 6 true (.op 7 true (.op 8 false .nil))) (.op 6 true (.op 2 false (.op 7 true (.op 8 false .nil))))) (.op 6 true (.op 0 false (.op 2 false (.op 7 true (.op 8 false .nil)))))))))) [] follows ?_; (simp only [go_sem])) | fail) | fail)
    all_goals (refine hR _ ?_; refine rat [] (hK := ⟨?_, rfl⟩))
    all_goals (rw [e1]; rfl)
  | cons b Γ =>
    have hcap : (Γ.length + 1) * 48 ≤ 140737488355328 := cap48 (Nat.lt_trans (Nat.lt_succ_self _) hl)
    have hcap2 : (Γ.length + 1 + 1) * 48 ≤ 140737488355328 := cap48 hl
    clear hl
    refine fn_in ?_; refine acl_in Try.func164 rfl isfn_164 (Nat.le_of_ble_eq_true rfl) (fun R hR => ?_); rw [Try.results164] at hR; refine wg_run ?_; (simp only [Try.f164, go_sem, hcap, hcap2])
    repeat' (first | (first | (simp only [go_sem, hcap, hcap2]) | (((first | apply sp1 | apply sp2 | apply sp3 | apply sp4 | apply sp5 | apply sp6 | apply sp7) <;> intro hb) <;> (simp only [go_sem, hb, hcap, hcap2])) | ((first | apply wm_done | apply wt_done | apply wg_run | refine fk ?_ ?_) <;> (simp only [go_sem, hcap, hcap2]))) | (first | (refine tr (.op 1 false (.op 3 false (.op 4 false (.op 5 false (.fork 0 false (.fork 2 false (.op 6 true (.op 7 true (.op 8 false .nil))) (.op 6 true (.op 2 false (.op 7 true (.op 8 false .nil))))) (.op 6 true (.op 0 false (.op 2 false (.op 7 true (.op 8 false .nil)))))))))) [] follows ?_; (simp only [go_sem, hcap, hcap2])) | fail) | fail)
    all_goals (refine hR _ ?_; refine rat [] (hK := ⟨?_, rfl⟩))
    all_goals (rw [e1]; rfl)
end Go.Proofs.Ytnaebafafhamjaa
/- Typing in the reference: types of two operands. On shadows. -/
namespace Go.Proofs.Ytnaebafafhamjaa
open Go.RowKit Go.Proofs.Sh Go.Proofs.Grad
set_option maxRecDepth 100000
set_option maxHeartbeats 8000000
theorem sBoolT : AFn Try.prog 130 [] (.agg (tyC T.bool.ty)) := by
  refine fn_in ?_; refine acl_in Try.func130 rfl isfn_130 (Nat.le_of_ble_eq_true rfl) (fun R hR => ?_); rw [Try.results130] at hR; refine wg_run ?_; (simp only [Try.f130, go_sem])
  (refine hR _ ?_; refine rat [] (hK := ⟨?_, rfl⟩))
  rfl
theorem sIntT : AFn Try.prog 133 [] (.agg (tyC T.int.ty)) := by
  refine fn_in ?_; refine acl_in Try.func133 rfl isfn_133 (Nat.le_of_ble_eq_true rfl) (fun R hR => ?_); rw [Try.results133] at hR; refine wg_run ?_; (simp only [Try.f133, go_sem])
  (refine hR _ ?_; refine rat [] (hK := ⟨?_, rfl⟩))
  rfl
/-- a type of two operands, and whether it is valid -/
theorem l3TwoF (a b : T) (ha : a.depth ≤ 4) (hb : b.depth ≤ 4) : AFn Try.prog 173 [.one (.sc (.int .i64 4)), .agg (tyC a.ty), .agg (tyC b.ty)] (.tup [.agg (tyC (T.fn a b).ty), .one (.sc (.bool (decide ((T.fn a b).depth ≤ 4))))]) := by
  have h1 := sCopyT ha
  have h2 := sCopyT hb
  have hv := sValid (T.fn a b).ty
  rw [T.valid_ty] at hv
  simp only [T.ty] at hv ⊢
  refine fn_in ?_; refine acl_in Try.func173 rfl isfn_173 (Nat.le_of_ble_eq_true rfl) (fun R hR => ?_); rw [Try.results173] at hR; refine wg_run ?_; (simp only [Try.f173, go_sem])
  repeat' (first | (first | (((first | apply sp1 | apply sp2 | apply sp3 | apply sp4 | apply sp5 | apply sp6 | apply sp7) <;> intro hb) <;> (simp only [go_sem, hb])) | ((first | apply wm_done | apply wt_done | apply wg_run | refine fk ?_ ?_) <;> (simp only [go_sem]))) | (first | (refine tr (.op 0 false (.op 1 false (.op 3 false (.fork 2 false (.fork 4 true (.fork 5 true (.op 6 false (.op 7 false (.op 8 true .nil))) (.op 7 false (.op 5 true (.op 6 false (.op 8 true .nil))))) (.op 7 false (.op 4 true (.op 5 true (.op 6 false (.op 8 true .nil)))))) (.op 7 false (.op 2 false (.op 4 true (.op 5 true (.op 6 false (.op 8 true .nil)))))))))) [] follows ?_; (simp only [go_sem])) | fail) | ((first | refine mxq6 [] ?_ | refine mxq5 [] ?_ | refine mxq4 [] ?_ | refine mxq3 [] ?_ | refine mxq2 [] ?_ | refine mxq1 [] ?_ | refine mxq0 [] ?_ | fail); (simp only [go_sem])) | (first | refine cdq ?_ (hc := h1) | refine cmq ?_ (hc := h1) | refine ctq ?_ (hc := h1)); (simp only [go_sem]) | (first | refine cdq ?_ (hc := h2) | refine cmq ?_ (hc := h2) | refine ctq ?_ (hc := h2)); (simp only [go_sem]) | (first | refine cdq ?_ (hc := hv) | refine cmq ?_ (hc := hv) | refine ctq ?_ (hc := hv)); (simp only [go_sem]) | fail)
  all_goals (refine hR _ ?_; refine rat [] (hK := ⟨rfl, rfl⟩))
theorem l3TwoP (a b : T) (ha : a.depth ≤ 4) (hb : b.depth ≤ 4) : AFn Try.prog 173 [.one (.sc (.int .i64 5)), .agg (tyC a.ty), .agg (tyC b.ty)] (.tup [.agg (tyC (T.pr a b).ty), .one (.sc (.bool (decide ((T.pr a b).depth ≤ 4))))]) := by
  have h1 := sCopyT ha
  have h2 := sCopyT hb
  have hv := sValid (T.pr a b).ty
  rw [T.valid_ty] at hv
  simp only [T.ty] at hv ⊢
  refine fn_in ?_; refine acl_in Try.func173 rfl isfn_173 (Nat.le_of_ble_eq_true rfl) (fun R hR => ?_); rw [Try.results173] at hR; refine wg_run ?_; (simp only [Try.f173, go_sem])
  repeat' (first | (first | (((first | apply sp1 | apply sp2 | apply sp3 | apply sp4 | apply sp5 | apply sp6 | apply sp7) <;> intro hb) <;> (simp only [go_sem, hb])) | ((first | apply wm_done | apply wt_done | apply wg_run | refine fk ?_ ?_) <;> (simp only [go_sem]))) | (first | (refine tr (.op 0 false (.op 1 false (.op 3 false (.fork 2 false (.fork 4 true (.fork 5 true (.op 6 false (.op 7 false (.op 8 true .nil))) (.op 7 false (.op 5 true (.op 6 false (.op 8 true .nil))))) (.op 7 false (.op 4 true (.op 5 true (.op 6 false (.op 8 true .nil)))))) (.op 7 false (.op 2 false (.op 4 true (.op 5 true (.op 6 false (.op 8 true .nil)))))))))) [] follows ?_; (simp only [go_sem])) | fail) | ((first | refine mxq6 [] ?_ | refine mxq5 [] ?_ | refine mxq4 [] ?_ | refine mxq3 [] ?_ | refine mxq2 [] ?_ | refine mxq1 [] ?_ | refine mxq0 [] ?_ | fail); (simp only [go_sem])) | (first | refine cdq ?_ (hc := h1) | refine cmq ?_ (hc := h1) | refine ctq ?_ (hc := h1)); (simp only [go_sem]) | (first | refine cdq ?_ (hc := h2) | refine cmq ?_ (hc := h2) | refine ctq ?_ (hc := h2)); (simp only [go_sem]) | (first | refine cdq ?_ (hc := hv) | refine cmq ?_ (hc := hv) | refine ctq ?_ (hc := hv)); (simp only [go_sem]) | fail)
  all_goals (refine hR _ ?_; refine rat [] (hK := ⟨rfl, rfl⟩))
end Go.Proofs.Ytnaebafafhamjaa
/- Typing in the reference: operands of types. On shadows. -/
namespace Go.Proofs.Ytnaebafafhamjaa
open Go.RowKit Go.Proofs.Sh Go.Proofs.Grad
set_option maxRecDepth 100000
set_option maxHeartbeats 8000000
theorem l3MatchF (s : T) (hs : s.depth ≤ 4) : AFn Try.prog 184 [.one (.sc (.int .i64 4)), .agg (tyC s.ty)] (tyO2 s.mfn) := by
  cases s with
  | fn a b =>
    simp only [T.depth] at hs
    have h1 := sCopyT (t := a) (by omega)
    have h2 := sCopyT (t := b) (by omega)
    simp only [T.ty, T.mfn, tyO2]
    refine fn_in ?_; refine acl_in Try.func184 rfl isfn_184 (Nat.le_of_ble_eq_true rfl) (fun R hR => ?_); rw [Try.results184] at hR; refine wg_run ?_; (simp only [Try.f184, go_sem])
    repeat' (first | (first | (((first | apply sp1 | apply sp2 | apply sp3 | apply sp4 | apply sp5 | apply sp6 | apply sp7) <;> intro hb) <;> (simp only [go_sem, hb])) | ((first | apply wm_done | apply wt_done | apply wg_run | refine fk ?_ ?_) <;> (simp only [go_sem]))) | ((first | refine mxq6 [] ?_ | refine mxq5 [] ?_ | refine mxq4 [] ?_ | refine mxq3 [] ?_ | refine mxq2 [] ?_ | refine mxq1 [] ?_ | refine mxq0 [] ?_ | fail); (simp only [go_sem])) | (first | refine cdq ?_ (hc := h1) | refine cmq ?_ (hc := h1) | refine ctq ?_ (hc := h1)); (simp only [go_sem]) | (first | refine cdq ?_ (hc := h2) | refine cmq ?_ (hc := h2) | refine ctq ?_ (hc := h2)); (simp only [go_sem]) | fail)
    all_goals (refine hR _ ?_; refine rat [] (hK := ⟨rfl, rfl⟩))
  | _ =>
    simp only [T.ty, T.mfn, tyO2]
    refine fn_in ?_; refine acl_in Try.func184 rfl isfn_184 (Nat.le_of_ble_eq_true rfl) (fun R hR => ?_); rw [Try.results184] at hR; refine wg_run ?_; (simp only [Try.f184, go_sem])
    repeat' (first | (first | (((first | apply sp1 | apply sp2 | apply sp3 | apply sp4 | apply sp5 | apply sp6 | apply sp7) <;> intro hb) <;> (simp only [go_sem, hb])) | ((first | apply wm_done | apply wt_done | apply wg_run | refine fk ?_ ?_) <;> (simp only [go_sem]))) | ((first | refine mxq6 [] ?_ | refine mxq5 [] ?_ | refine mxq4 [] ?_ | refine mxq3 [] ?_ | refine mxq2 [] ?_ | refine mxq1 [] ?_ | refine mxq0 [] ?_ | fail); (simp only [go_sem])) | (first | refine cdq ?_ (hc := l1Any) | refine cmq ?_ (hc := l1Any) | refine ctq ?_ (hc := l1Any)); (simp only [go_sem]) | fail)
    all_goals (refine hR _ ?_; refine rat [] (hK := ⟨rfl, rfl⟩))
theorem l3MatchP (s : T) (hs : s.depth ≤ 4) : AFn Try.prog 184 [.one (.sc (.int .i64 5)), .agg (tyC s.ty)] (tyO2 s.mpr) := by
  cases s with
  | pr a b =>
    simp only [T.depth] at hs
    have h1 := sCopyT (t := a) (by omega)
    have h2 := sCopyT (t := b) (by omega)
    simp only [T.ty, T.mpr, tyO2]
    refine fn_in ?_; refine acl_in Try.func184 rfl isfn_184 (Nat.le_of_ble_eq_true rfl) (fun R hR => ?_); rw [Try.results184] at hR; refine wg_run ?_; (simp only [Try.f184, go_sem])
    repeat' (first | (first | (((first | apply sp1 | apply sp2 | apply sp3 | apply sp4 | apply sp5 | apply sp6 | apply sp7) <;> intro hb) <;> (simp only [go_sem, hb])) | ((first | apply wm_done | apply wt_done | apply wg_run | refine fk ?_ ?_) <;> (simp only [go_sem]))) | ((first | refine mxq6 [] ?_ | refine mxq5 [] ?_ | refine mxq4 [] ?_ | refine mxq3 [] ?_ | refine mxq2 [] ?_ | refine mxq1 [] ?_ | refine mxq0 [] ?_ | fail); (simp only [go_sem])) | (first | refine cdq ?_ (hc := h1) | refine cmq ?_ (hc := h1) | refine ctq ?_ (hc := h1)); (simp only [go_sem]) | (first | refine cdq ?_ (hc := h2) | refine cmq ?_ (hc := h2) | refine ctq ?_ (hc := h2)); (simp only [go_sem]) | fail)
    all_goals (refine hR _ ?_; refine rat [] (hK := ⟨rfl, rfl⟩))
  | _ =>
    simp only [T.ty, T.mpr, tyO2]
    refine fn_in ?_; refine acl_in Try.func184 rfl isfn_184 (Nat.le_of_ble_eq_true rfl) (fun R hR => ?_); rw [Try.results184] at hR; refine wg_run ?_; (simp only [Try.f184, go_sem])
    repeat' (first | (first | (((first | apply sp1 | apply sp2 | apply sp3 | apply sp4 | apply sp5 | apply sp6 | apply sp7) <;> intro hb) <;> (simp only [go_sem, hb])) | ((first | apply wm_done | apply wt_done | apply wg_run | refine fk ?_ ?_) <;> (simp only [go_sem]))) | ((first | refine mxq6 [] ?_ | refine mxq5 [] ?_ | refine mxq4 [] ?_ | refine mxq3 [] ?_ | refine mxq2 [] ?_ | refine mxq1 [] ?_ | refine mxq0 [] ?_ | fail); (simp only [go_sem])) | (first | refine cdq ?_ (hc := l1Any) | refine cmq ?_ (hc := l1Any) | refine ctq ?_ (hc := l1Any)); (simp only [go_sem]) | fail)
    all_goals (refine hR _ ?_; refine rat [] (hK := ⟨rfl, rfl⟩))
end Go.Proofs.Ytnaebafafhamjaa
/- Typing in the reference: meets. On shadows. -/
namespace Go.Proofs.Ytnaebafafhamjaa
open Go.RowKit Go.Proofs.Sh Go.Proofs.Grad
set_option maxRecDepth 100000
set_option maxHeartbeats 8000000
theorem l1Meet (a : T) : ∀ b : T, a.depth ≤ 4 → b.depth ≤ 4 → a.cons b = true → AFn Try.prog 45 [.agg (tyC a.ty), .agg (tyC b.ty)] (.agg (tyC (a.meet b).ty)) := by
  induction a with
  | any =>
    intro b ha hb hc
    have h1 := sCopyT hb
    simp only [T.meet]
    simp only [T.ty]
    refine fn_in ?_; refine acl_in Try.func45 rfl isfn_45 (Nat.le_of_ble_eq_true rfl) (fun R hR => ?_); rw [Try.results45] at hR; refine wg_run ?_; (simp only [Try.f45, go_sem])
    repeat' (first | (first | (((first | apply sp1 | apply sp2 | apply sp3 | apply sp4 | apply sp5 | apply sp6 | apply sp7) <;> intro hb) <;> (simp only [go_sem, hb])) | ((first | apply wm_done | apply wt_done | apply wg_run | refine fk ?_ ?_) <;> (simp only [go_sem]))) | (first | refine cdq ?_ (hc := h1) | refine cmq ?_ (hc := h1) | refine ctq ?_ (hc := h1)); (simp only [go_sem]) | fail)
    all_goals (refine hR _ ?_; refine rat [] (hK := ⟨rfl, rfl⟩))
  | int | bool =>
    intro b ha hb hc
    have h1 := sCopyT ha
    cases b <;> simp only [T.cons, Bool.false_eq_true] at hc
    all_goals
      simp only [T.meet]
      simp only [T.ty] at h1 ⊢
      refine fn_in ?_; refine acl_in Try.func45 rfl isfn_45 (Nat.le_of_ble_eq_true rfl) (fun R hR => ?_); rw [Try.results45] at hR; refine wg_run ?_; (simp only [Try.f45, go_sem])
      repeat' (first | (first | (((first | apply sp1 | apply sp2 | apply sp3 | apply sp4 | apply sp5 | apply sp6 | apply sp7) <;> intro hb) <;> (simp only [go_sem, hb])) | ((first | apply wm_done | apply wt_done | apply wg_run | refine fk ?_ ?_) <;> (simp only [go_sem]))) | (first | (refine wl_next (wg_run ?_); (simp only [go_sem])) | refine wd_rounds 6 ?_) | (first | refine cdq ?_ (hc := h1) | refine cmq ?_ (hc := h1) | refine ctq ?_ (hc := h1)); (simp only [go_sem]) | fail)
      all_goals (refine hR _ ?_; refine rat [] (hK := ⟨rfl, rfl⟩))
  | fn a1 a2 ih1 ih2 | pr a1 a2 ih1 ih2 =>
    intro b ha hb hc
    have h1 := sCopyT ha
    cases b <;> simp only [T.cons, Bool.false_eq_true, Bool.and_eq_true] at hc
    · simp only [T.meet]
      simp only [T.ty] at h1 ⊢
      refine fn_in ?_; refine acl_in Try.func45 rfl isfn_45 (Nat.le_of_ble_eq_true rfl) (fun R hR => ?_); rw [Try.results45] at hR; refine wg_run ?_; (simp only [Try.f45, go_sem])
      repeat' (first | (first | (((first | apply sp1 | apply sp2 | apply sp3 | apply sp4 | apply sp5 | apply sp6 | apply sp7) <;> intro hb) <;> (simp only [go_sem, hb])) | ((first | apply wm_done | apply wt_done | apply wg_run | refine fk ?_ ?_) <;> (simp only [go_sem]))) | (first | (refine wl_next (wg_run ?_); (simp only [go_sem])) | refine wd_rounds 6 ?_) | (first | refine cdq ?_ (hc := h1) | refine cmq ?_ (hc := h1) | refine ctq ?_ (hc := h1)); (simp only [go_sem]) | fail)
      all_goals (refine hR _ ?_; refine rat [] (hK := ⟨rfl, rfl⟩))
    · rename_i b1 b2
      simp only [T.depth] at ha hb
      have i1 := ih1 b1 (by omega) (by omega) hc.1
      have i2 := ih2 b2 (by omega) (by omega) hc.2
      simp only [T.meet]
      simp only [T.ty]
      refine fn_in ?_; refine acl_in Try.func45 rfl isfn_45 (Nat.le_of_ble_eq_true rfl) (fun R hR => ?_); rw [Try.results45] at hR; refine wg_run ?_; (simp only [Try.f45, go_sem])
      repeat' (first | (first | (((first | apply sp1 | apply sp2 | apply sp3 | apply sp4 | apply sp5 | apply sp6 | apply sp7) <;> intro hb) <;> (simp only [go_sem, hb])) | ((first | apply wm_done | apply wt_done | apply wg_run | refine fk ?_ ?_) <;> (simp only [go_sem]))) | (first | (refine wl_next (wg_run ?_); (simp only [go_sem])) | refine wd_rounds 6 ?_) | ((first | refine mxq6 [] ?_ | refine mxq5 [] ?_ | refine mxq4 [] ?_ | refine mxq3 [] ?_ | refine mxq2 [] ?_ | refine mxq1 [] ?_ | refine mxq0 [] ?_ | fail); (simp only [go_sem])) | (first | refine cdq ?_ (hc := i1) | refine cmq ?_ (hc := i1) | refine ctq ?_ (hc := i1)); (simp only [go_sem]) | (first | refine cdq ?_ (hc := i2) | refine cmq ?_ (hc := i2) | refine ctq ?_ (hc := i2)); (simp only [go_sem]) | fail)
      all_goals (refine hR _ ?_; refine rat [] (hK := ⟨rfl, rfl⟩))
end Go.Proofs.Ytnaebafafhamjaa
