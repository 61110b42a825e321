/- Texts of the proof, one behind another. -/
import Derived.Test.YtnaebafafhamjaaGreatKY11
import Derived.Test.YtnaebafafhamjaaGreatKY18
import Derived.Test.YtnaebafafhamjaaGreatKY21
set_option linter.unusedSimpArgs false
set_option linter.unusedVariables false
/- The type of a closed term, in the reference. On shadows. -/
namespace Go.Proofs.YtnaebafafhamjaaGreat
open Go.RowKit Go.Proofs.Sh Go.Proofs.Grad
set_option maxRecDepth 100000
set_option maxHeartbeats 8000000
theorem E.nodes_tm (e : E) : e.nodes ≤ e.tm.size := by rw [← E.tm_nodes]; exact Tm.nodes_le _
theorem sCtxNil : AFn Tryz.prog 208 [.one (.sl [])] (.one (.sc (.bool true))) := by
  refine fn_in ?_; refine acl_in Tryz.func208 rfl isfn_208 (Nat.le_of_ble_eq_true rfl) (fun R hR => ?_); rw [Tryz.results208] at hR; refine wg_run ?_; (simp only [Tryz.f208, go_sem])
  repeat' (first | (first | (((first | apply sp1 | apply sp2 | apply sp3 | apply sp4 | apply sp5 | apply sp6 | apply sp7) <;> intro hb) <;> (simp only [go_sem, hb])) | ((first | apply wm_done | apply wt_done | apply wg_run | refine fk ?_ ?_) <;> (simp only [go_sem]))) | (first | (refine wl_next (wg_run ?_); (simp only [go_sem])) | refine wd_rounds 6 ?_) | fail)
  (refine hR _ ?_; refine rat [] (hK := ⟨rfl, rfl⟩))
theorem l3SureT (t : Ty) : AFn Tryz.prog 209 [.agg (tyC t), .one (.sc (.bool true))] (.tup [.agg (tyC t), .one (.sc (.bool true))]) := by
  refine fn_in ?_; refine acl_in Tryz.func209 rfl isfn_209 (Nat.le_of_ble_eq_true rfl) (fun R hR => ?_); rw [Tryz.results209] at hR; refine wg_run ?_; (simp only [Tryz.f209, go_sem])
  repeat' (first | (first | (((first | apply sp1 | apply sp2 | apply sp3 | apply sp4 | apply sp5 | apply sp6 | apply sp7) <;> intro hb) <;> (simp only [go_sem, hb])) | ((first | apply wm_done | apply wt_done | apply wg_run | refine fk ?_ ?_) <;> (simp only [go_sem]))) | fail)
  (refine hR _ ?_; refine rat [] (hK := ⟨rfl, rfl⟩))
theorem l3SureF (t : Ty) : AFn Tryz.prog 209 [.agg (tyC t), .one (.sc (.bool false))] (.tup [.agg (tyC noTy), .one (.sc (.bool false))]) := by
  refine fn_in ?_; refine acl_in Tryz.func209 rfl isfn_209 (Nat.le_of_ble_eq_true rfl) (fun R hR => ?_); rw [Tryz.results209] at hR; refine wg_run ?_; (simp only [Tryz.f209, go_sem])
  repeat' (first | (first | (((first | apply sp1 | apply sp2 | apply sp3 | apply sp4 | apply sp5 | apply sp6 | apply sp7) <;> intro hb) <;> (simp only [go_sem, hb])) | ((first | apply wm_done | apply wt_done | apply wg_run | refine fk ?_ ?_) <;> (simp only [go_sem]))) | fail)
  (refine hR _ ?_; refine rat [] (hK := ⟨rfl, rfl⟩))
/-- the type of a closed term and true; or the zero value and false -/
def TyN (e : E) (r : AV) (H' : List Blk) : Prop := (∃ t, e.rty [] = some t ∧ r = .tup [.agg (tyC t.ty), .one (.sc (.bool true))] ∧ H' = []) ∨ (r = .tup [.agg (tyC noTy), .one (.sc (.bool false))] ∧ H' = [])
theorem sTypeIn (e : E) (hw : e.wf = true) (hn : e.noC = true) (hz : e.tm.size < 40000) : ACl Tryz.prog 185 [.one (.sl []), .agg (teC e.tm)] [] (TyN e) := by
  have hv := sTermV e.tm (by omega)
  have hnd := E.nodes_tm e
  have h1 := l3Type e [] hw hn ctxOk_nil (by simp; omega)
  have hT := l3SureT
  have hF := l3SureF
  have hc := sCtxNil
  cases ev : e.tm.termV
  all_goals
    rw [ev] at hv
    refine acl_in Tryz.func185 rfl isfn_185 (Nat.le_of_ble_eq_true rfl) (fun R hR => ?_); rw [Tryz.results185] at hR; refine wg_run ?_; (simp only [Tryz.f185, go_sem])
    repeat' (first | (first | (((first | apply sp1 | apply sp2 | apply sp3 | apply sp4 | apply sp5 | apply sp6 | apply sp7) <;> intro hb) <;> (simp only [go_sem, hb])) | ((first | apply wm_done | apply wt_done | apply wg_run | refine fk ?_ ?_) <;> (simp only [go_sem]))) | ((first | refine mxq6 [] ?_ | refine mxq5 [] ?_ | refine mxq4 [] ?_ | refine mxq3 [] ?_ | refine mxq2 [] ?_ | refine mxq1 [] ?_ | refine mxq0 [] ?_ | fail); (simp only [go_sem])) | (first | refine cdq ?_ (hc := hc) | refine cmq ?_ (hc := hc) | refine ctq ?_ (hc := hc)); (simp only [go_sem]) | (first | refine cdq ?_ (hc := hv) | refine cmq ?_ (hc := hv) | refine ctq ?_ (hc := hv)); (simp only [go_sem]) | fail)
  · exact hR _ (rat [] (hK := (.inr ⟨rfl, rfl⟩)))
  · ((first | refine kdq [] ?_ (hc := h1) | refine kmq [] ?_ (hc := h1) | refine ktq [] ?_ (hc := h1)); rintro _ _ (⟨s, es, rfl, rfl⟩ | ⟨es, y, hy, rfl, rfl⟩) <;> (simp only [go_sem]))
    · repeat' (first | (first | (((first | apply sp1 | apply sp2 | apply sp3 | apply sp4 | apply sp5 | apply sp6 | apply sp7) <;> intro hb) <;> (simp only [go_sem, hb])) | ((first | apply wm_done | apply wt_done | apply wg_run | refine fk ?_ ?_) <;> (simp only [go_sem]))) | (first | refine cdq ?_ (hc := hT _) | refine cmq ?_ (hc := hT _) | refine ctq ?_ (hc := hT _)); (simp only [go_sem]) | fail)
      exact hR _ (rat [] (hK := (.inl ⟨s, es, rfl, rfl⟩)))
    · repeat' (first | (first | (((first | apply sp1 | apply sp2 | apply sp3 | apply sp4 | apply sp5 | apply sp6 | apply sp7) <;> intro hb) <;> (simp only [go_sem, hb])) | ((first | apply wm_done | apply wt_done | apply wg_run | refine fk ?_ ?_) <;> (simp only [go_sem]))) | (first | refine cdq ?_ (hc := hF _) | refine cmq ?_ (hc := hF _) | refine ctq ?_ (hc := hF _)); (simp only [go_sem]) | fail)
      exact hR _ (rat [] (hK := (.inr ⟨rfl, rfl⟩)))
theorem sTypeOf (e : E) (hw : e.wf = true) (hn : e.noC = true) (hz : e.tm.size < 40000) : ACl Tryz.prog 151 [.agg (teC e.tm)] [] (TyN e) := by
  have h1 := sTypeIn e hw hn hz
  refine acl_in Tryz.func151 rfl isfn_151 (Nat.le_of_ble_eq_true rfl) (fun R hR => ?_); rw [Tryz.results151] at hR; refine wg_run ?_; (simp only [Tryz.f151, go_sem])
  repeat' (first | (first | (((first | apply sp1 | apply sp2 | apply sp3 | apply sp4 | apply sp5 | apply sp6 | apply sp7) <;> intro hb) <;> (simp only [go_sem, hb])) | ((first | apply wm_done | apply wt_done | apply wg_run | refine fk ?_ ?_) <;> (simp only [go_sem]))) | fail)
  ((first | refine kdq [] ?_ (hc := h1) | refine kmq [] ?_ (hc := h1) | refine ktq [] ?_ (hc := h1)); rintro _ _ (⟨s, es, rfl, rfl⟩ | ⟨rfl, rfl⟩) <;> (simp only [go_sem]))
  · repeat' (first | (first | (((first | apply sp1 | apply sp2 | apply sp3 | apply sp4 | apply sp5 | apply sp6 | apply sp7) <;> intro hb) <;> (simp only [go_sem, hb])) | ((first | apply wm_done | apply wt_done | apply wg_run | refine fk ?_ ?_) <;> (simp only [go_sem]))) | fail)
    exact hR _ (rat [] (hK := (.inl ⟨s, es, rfl, rfl⟩)))
  · repeat' (first | (first | (((first | apply sp1 | apply sp2 | apply sp3 | apply sp4 | apply sp5 | apply sp6 | apply sp7) <;> intro hb) <;> (simp only [go_sem, hb])) | ((first | apply wm_done | apply wt_done | apply wg_run | refine fk ?_ ?_) <;> (simp only [go_sem]))) | fail)
    exact hR _ (rat [] (hK := (.inr ⟨rfl, rfl⟩)))
end Go.Proofs.YtnaebafafhamjaaGreat
/- Terms: values, on shadows. -/
namespace Go.Proofs.Grad
end Go.Proofs.Grad
namespace Go.Proofs.YtnaebafafhamjaaGreat
open Go.RowKit Go.Proofs.Sh Go.Proofs.Grad
set_option maxRecDepth 100000
set_option maxHeartbeats 8000000
theorem sSame (n : Nat) (hn : n ≤ 4611686018427387904) : ∀ a b : Ty, a.size < n → AFn Tryz.prog 155 [.agg (tyC a), .agg (tyC b)] (.one (.sc (.bool (a.same b)))) := by
  induction n with
  | zero => intro a b h; omega
  | succ n ih =>
    intro a b h
    have hl : a.kids.length < 4611686018427387904 := by have := Ty.length_le_sizes a.kids; cases a; simp only [Ty.size, Ty.kids] at *; omega
    have e : a.same b = (a.kind == b.kind && all2 Ty.same a.kids b.kids) := by cases a; cases b; simp only [Ty.same, Ty.kind, Ty.kids, Ty.sames_all2]
    rw [e]
    cases hk : (a.kind == b.kind)
    · refine fn_in ?_; refine acl_in Tryz.func155 rfl isfn_155 (Nat.le_of_ble_eq_true rfl) (fun R hR => ?_); rw [Tryz.results155] at hR; refine wg_run ?_; (simp only [Tryz.f155, go_sem, hk, int_bne])
      repeat' (first | (simp only [go_sem, hk, int_bne]) | (((first | apply sp1 | apply sp2 | apply sp3 | apply sp4 | apply sp5 | apply sp6 | apply sp7) <;> intro hb) <;> (simp only [go_sem, hb, hk, int_bne])) | ((first | apply wm_done | apply wt_done | apply wg_run | refine fk ?_ ?_) <;> (simp only [go_sem, hk, int_bne])))
      (refine hR _ (rat [] (hK := ⟨rfl, rfl⟩)))
    · by_cases hlm : a.kids.length = b.kids.length
      · have hb0 : ((a.kids.length : Int) == (b.kids.length : Int)) = true := by simp; omega
        refine fn_in ?_; refine acl_in Tryz.func155 rfl isfn_155 (Nat.le_of_ble_eq_true rfl) (fun R hR => ?_); rw [Tryz.results155] at hR; refine wg_run ?_; (simp only [Tryz.f155, go_sem, hk, int_bne, hb0])
        repeat' (first | (simp only [go_sem, hk, int_bne, hb0]) | (((first | apply sp1 | apply sp2 | apply sp3 | apply sp4 | apply sp5 | apply sp6 | apply sp7) <;> intro hb) <;> (simp only [go_sem, hb, hk, int_bne, hb0])) | ((first | apply wm_done | apply wt_done | apply wg_run | refine fk ?_ ?_) <;> (simp only [go_sem, hk, int_bne, hb0])))
        refine wd_for [2, 3, 5] (fun k => [.one (.ptr 2 0 0 0), .one (.ptr 2 1 0 0), .one (.sc (.int .i64 (k : Nat)))]) (fun _ => [⟨2, 25, .mut, [tyC a]⟩, ⟨2, 25, .mut, [tyC b]⟩])
          (fun k => k ≤ a.kids.length ∧ all2 Ty.same (a.kids.drop k) (b.kids.drop k) = all2 Ty.same a.kids b.kids) (fun k => a.kids.length - k) 0 ⟨Nat.zero_le _, rfl⟩ (hat [0, 1] (hI := ⟨rfl, rfl⟩)) ?_
        rintro k ⟨hk0, hs⟩ G hG
        refine wg_run ?_
        (simp only [go_sem])
        ((first | apply sp1 | apply sp2 | apply sp3 | apply sp4 | apply sp5 | apply sp6 | apply sp7) <;> intro hb) <;> (simp only [go_sem, hb])
        · have hk1 : k < a.kids.length := by have := of_decide_eq_true hb; omega
          have hk2 : decide ((k : Int) < (b.kids.length : Int)) = true := by simp; omega
          have hw1 := wrap_succ hk1 (by omega)
          rw [drop_kid hk1, drop_kid (by omega : k < b.kids.length), all2] at hs
          have hc := ih (by omega) (kid a.kids k) (kid b.kids k) (by have := kid_lt hk1; omega)
          repeat' (first | (first | (simp only [go_sem, hb, hk2, hw1]) | (((first | apply sp1 | apply sp2 | apply sp3 | apply sp4 | apply sp5 | apply sp6 | apply sp7) <;> intro hb) <;> (simp only [go_sem, hb, hb, hk2, hw1])) | ((first | apply wm_done | apply wt_done | apply wg_run | refine fk ?_ ?_) <;> (simp only [go_sem, hb, hk2, hw1]))) | ((first | refine mxq6 [] ?_ | refine mxq5 [] ?_ | refine mxq4 [] ?_ | refine mxq3 [] ?_ | refine mxq2 [] ?_ | refine mxq1 [] ?_ | refine mxq0 [] ?_ | fail); (simp only [go_sem, hb, hk2])) | (first | refine cdq ?_ (hc := hc) | refine cmq ?_ (hc := hc) | refine ctq ?_ (hc := hc)); (simp only [go_sem]))
          · exact hG (k + 1) _ _ ⟨by omega, by simpa [hb] using hs⟩ (by omega) (hat [0, 1] (hI := ⟨rfl, rfl⟩))
          · (refine hR _ (rat [] (hK := ⟨?_, rfl⟩)))
            simpa [hb] using hs
        · have hk1 : ¬ k < a.kids.length := by have := of_decide_eq_false hb; omega
          rw [List.drop_eq_nil_of_le (by omega), List.drop_eq_nil_of_le (by omega), all2] at hs
          (refine hR _ (rat [] (hK := ⟨?_, rfl⟩)))
          rw [← hs]; rfl
      · have hb0 : ((a.kids.length : Int) == (b.kids.length : Int)) = false := by simp; omega
        refine fn_in ?_; refine acl_in Tryz.func155 rfl isfn_155 (Nat.le_of_ble_eq_true rfl) (fun R hR => ?_); rw [Tryz.results155] at hR; refine wg_run ?_; (simp only [Tryz.f155, go_sem, hk, int_bne, hb0])
        repeat' (first | (simp only [go_sem, hk, int_bne, hb0]) | (((first | apply sp1 | apply sp2 | apply sp3 | apply sp4 | apply sp5 | apply sp6 | apply sp7) <;> intro hb) <;> (simp only [go_sem, hb, hk, int_bne, hb0])) | ((first | apply wm_done | apply wt_done | apply wg_run | refine fk ?_ ?_) <;> (simp only [go_sem, hk, int_bne, hb0])))
        (refine hR _ (rat [] (hK := ⟨?_, rfl⟩)))
        rw [all2_len hlm]; rfl
end Go.Proofs.YtnaebafafhamjaaGreat
/- Casts put in: one cast; the types wanted of operands. In the reference, on shadows. -/
namespace Go.Proofs.Grad
/-- a term cast from a type to another one, if they differ, and the next label -/
def casT (x : Tm) (s t : T) (n : Int) : Tm × Int := match s.eqb t with | true => (x, n) | false => (.mk 14 ByteArray.empty 0 t.ty s.ty n [x], n + 1)
theorem casT_size (x : Tm) {s t : T} (hs : s.depth ≤ 4) (ht : t.depth ≤ 4) (n : Int) : (casT x s t n).1.size ≤ x.size + 31 ∧ n ≤ (casT x s t n).2 ∧ (casT x s t n).2 ≤ n + 1 := by
  have h1 := T.ty_size16 hs
  have h2 := T.ty_size16 ht
  unfold casT
  split
  · exact ⟨by simp only []; omega, by simp only []; omega, by simp only []; omega⟩
  · exact ⟨by simp only [Tm.size, Tm.sizes]; omega, by simp only []; omega, by simp only []; omega⟩
end Go.Proofs.Grad
namespace Go.Proofs.YtnaebafafhamjaaGreat
open Go.RowKit Go.Proofs.Sh Go.Proofs.Grad
set_option maxRecDepth 100000
set_option maxHeartbeats 8000000
theorem sSameT {a b : T} (ha : a.depth ≤ 4) : AFn Tryz.prog 155 [.agg (tyC a.ty), .agg (tyC b.ty)] (.one (.sc (.bool (a.eqb b)))) := sSame 1000000 (by omega) a.ty b.ty (by have := T.ty_size16 ha; omega)
theorem l4Cast (x : Tm) (s t : T) (hs : s.depth ≤ 4) (ht : t.depth ≤ 4) (n : Int) (h1 : -1000000000000 ≤ n) (h2 : n ≤ 1000000000000) : AFn Tryz.prog 110 [.agg (teC x), .agg (tyC s.ty), .agg (tyC t.ty), .one (.sc (.int .i64 n))] (.tup [.agg (teC (casT x s t n).1), .one (.sc (.int .i64 (casT x s t n).2))]) := by
  have he := sSameT (b := t) hs
  have hc1 := sCopyT hs
  have hc2 := sCopyT ht
  have hw : IntKind.i64.wrap (n + 1) = n + 1 := IntWalk.i64_in _ (by omega)
  unfold casT
  cases e : s.eqb t
  all_goals
    rw [e] at he
    refine fn_in ?_; refine acl_in Tryz.func110 rfl isfn_110 (Nat.le_of_ble_eq_true rfl) (fun R hR => ?_); rw [Tryz.results110] at hR; refine wg_run ?_; (simp only [Tryz.f110, go_sem, hw])
    repeat' (first | (first | (simp only [go_sem, hw]) | (((first | apply sp1 | apply sp2 | apply sp3 | apply sp4 | apply sp5 | apply sp6 | apply sp7) <;> intro hb) <;> (simp only [go_sem, hb, hw])) | ((first | apply wm_done | apply wt_done | apply wg_run | refine fk ?_ ?_) <;> (simp only [go_sem, hw]))) | (first | refine cdq ?_ (hc := he) | refine cmq ?_ (hc := he) | refine ctq ?_ (hc := he)); (simp only [go_sem]) | ((first | refine mxq6 [] ?_ | refine mxq5 [] ?_ | refine mxq4 [] ?_ | refine mxq3 [] ?_ | refine mxq2 [] ?_ | refine mxq1 [] ?_ | refine mxq0 [] ?_ | fail); (simp only [go_sem, hw])) | (first | refine cdq ?_ (hc := hc1) | refine cmq ?_ (hc := hc1) | refine ctq ?_ (hc := hc1)); (simp only [go_sem]) | (first | refine cdq ?_ (hc := hc2) | refine cmq ?_ (hc := hc2) | refine ctq ?_ (hc := hc2)); (simp only [go_sem]) | (first | (refine tr (.op 0 false (.op 2 false (.op 4 false (.op 5 false (.op 8 false (.op 9 false (.fork 1 false (.fork 3 false (.op 6 false (.op 7 false (.op 10 true (.op 11 false .nil)))) (.op 6 false (.op 3 false (.op 7 false (.op 10 true (.op 11 false .nil)))))) (.op 6 false (.op 1 false (.op 3 false (.op 7 false (.op 10 true (.op 11 false .nil))))))))))))) [] follows ?_; (simp only [go_sem, hw])) | fail) | fail)
    all_goals (refine hR _ ?_; refine rat [] (hK := ⟨rfl, rfl⟩))
theorem want6 (t : Tm) (h : t.kind = 6) (s u v : T) (p q : T) (hm : s.mfn = some (p, q)) (hs : s.depth ≤ 4) : AFn Tryz.prog 188 [.agg (teC t), .one (.sl [tyC s.ty, tyC u.ty]), .agg (tyC v.ty)] (.one (.sl [tyC (T.fn p q).ty, tyC p.ty])) := by
  have h1 := l3MatchF s hs
  rw [hm] at h1
  simp only [tyO2] at h1
  have hd := T.mfn_depth hm hs
  have h2 := l3TwoF p q hd.1 hd.2
  refine fn_in ?_; refine acl_in Tryz.func188 rfl isfn_188 (Nat.le_of_ble_eq_true rfl) (fun R hR => ?_); rw [Tryz.results188] at hR; refine wg_run ?_; (simp only [Tryz.f188, go_sem, h])
  repeat' (first | (first | (simp only [go_sem, h]) | (((first | apply sp1 | apply sp2 | apply sp3 | apply sp4 | apply sp5 | apply sp6 | apply sp7) <;> intro hb) <;> (simp only [go_sem, hb, h])) | ((first | apply wm_done | apply wt_done | apply wg_run | refine fk ?_ ?_) <;> (simp only [go_sem, h]))) | ((first | refine mxq6 [] ?_ | refine mxq5 [] ?_ | refine mxq4 [] ?_ | refine mxq3 [] ?_ | refine mxq2 [] ?_ | refine mxq1 [] ?_ | refine mxq0 [] ?_ | fail); (simp only [go_sem])) | (first | refine cdq ?_ (hc := h1) | refine cmq ?_ (hc := h1) | refine ctq ?_ (hc := h1)); (simp only [go_sem]) | (first | refine cdq ?_ (hc := h2) | refine cmq ?_ (hc := h2) | refine ctq ?_ (hc := h2)); (simp only [go_sem]) | fail)
  all_goals (refine hR _ ?_; refine rat [] (hK := ⟨rfl, rfl⟩))
theorem want7 (t : Tm) (h : t.kind = 7) (s u v : T)  : AFn Tryz.prog 188 [.agg (teC t), .one (.sl [tyC s.ty, tyC u.ty]), .agg (tyC v.ty)] (.one (.sl [tyC T.int.ty, tyC T.int.ty])) := by
  have hi := sIntT
  refine fn_in ?_; refine acl_in Tryz.func188 rfl isfn_188 (Nat.le_of_ble_eq_true rfl) (fun R hR => ?_); rw [Tryz.results188] at hR; refine wg_run ?_; (simp only [Tryz.f188, go_sem, h])
  repeat' (first | (first | (simp only [go_sem, h]) | (((first | apply sp1 | apply sp2 | apply sp3 | apply sp4 | apply sp5 | apply sp6 | apply sp7) <;> intro hb) <;> (simp only [go_sem, hb, h])) | ((first | apply wm_done | apply wt_done | apply wg_run | refine fk ?_ ?_) <;> (simp only [go_sem, h]))) | ((first | refine mxq6 [] ?_ | refine mxq5 [] ?_ | refine mxq4 [] ?_ | refine mxq3 [] ?_ | refine mxq2 [] ?_ | refine mxq1 [] ?_ | refine mxq0 [] ?_ | fail); (simp only [go_sem])) | (first | refine cdq ?_ (hc := hi) | refine cmq ?_ (hc := hi) | refine ctq ?_ (hc := hi)); (simp only [go_sem]) | fail)
  all_goals (refine hR _ ?_; refine rat [] (hK := ⟨rfl, rfl⟩))
theorem want8 (t : Tm) (h : t.kind = 8) (s u v : T)  : AFn Tryz.prog 188 [.agg (teC t), .one (.sl [tyC s.ty, tyC u.ty]), .agg (tyC v.ty)] (.one (.sl [tyC T.int.ty, tyC T.int.ty])) := by
  have hi := sIntT
  refine fn_in ?_; refine acl_in Tryz.func188 rfl isfn_188 (Nat.le_of_ble_eq_true rfl) (fun R hR => ?_); rw [Tryz.results188] at hR; refine wg_run ?_; (simp only [Tryz.f188, go_sem, h])
  repeat' (first | (first | (simp only [go_sem, h]) | (((first | apply sp1 | apply sp2 | apply sp3 | apply sp4 | apply sp5 | apply sp6 | apply sp7) <;> intro hb) <;> (simp only [go_sem, hb, h])) | ((first | apply wm_done | apply wt_done | apply wg_run | refine fk ?_ ?_) <;> (simp only [go_sem, h]))) | ((first | refine mxq6 [] ?_ | refine mxq5 [] ?_ | refine mxq4 [] ?_ | refine mxq3 [] ?_ | refine mxq2 [] ?_ | refine mxq1 [] ?_ | refine mxq0 [] ?_ | fail); (simp only [go_sem])) | (first | refine cdq ?_ (hc := hi) | refine cmq ?_ (hc := hi) | refine ctq ?_ (hc := hi)); (simp only [go_sem]) | fail)
  all_goals (refine hR _ ?_; refine rat [] (hK := ⟨rfl, rfl⟩))
theorem want9 (t : Tm) (h : t.kind = 9) (s u w v : T)  : AFn Tryz.prog 188 [.agg (teC t), .one (.sl [tyC s.ty, tyC u.ty, tyC w.ty]), .agg (tyC v.ty)] (.one (.sl [tyC T.bool.ty, tyC v.ty, tyC v.ty])) := by
  have hi := sBoolT
  refine fn_in ?_; refine acl_in Tryz.func188 rfl isfn_188 (Nat.le_of_ble_eq_true rfl) (fun R hR => ?_); rw [Tryz.results188] at hR; refine wg_run ?_; (simp only [Tryz.f188, go_sem, h])
  repeat' (first | (first | (simp only [go_sem, h]) | (((first | apply sp1 | apply sp2 | apply sp3 | apply sp4 | apply sp5 | apply sp6 | apply sp7) <;> intro hb) <;> (simp only [go_sem, hb, h])) | ((first | apply wm_done | apply wt_done | apply wg_run | refine fk ?_ ?_) <;> (simp only [go_sem, h]))) | ((first | refine mxq6 [] ?_ | refine mxq5 [] ?_ | refine mxq4 [] ?_ | refine mxq3 [] ?_ | refine mxq2 [] ?_ | refine mxq1 [] ?_ | refine mxq0 [] ?_ | fail); (simp only [go_sem])) | (first | refine cdq ?_ (hc := hi) | refine cmq ?_ (hc := hi) | refine ctq ?_ (hc := hi)); (simp only [go_sem]) | fail)
  all_goals (refine hR _ ?_; refine rat [] (hK := ⟨rfl, rfl⟩))
theorem want10 (t : Tm) (h : t.kind = 10) (s u v : T)  : AFn Tryz.prog 188 [.agg (teC t), .one (.sl [tyC s.ty, tyC u.ty]), .agg (tyC v.ty)] (.one (.sl [tyC s.ty, tyC u.ty])) := by
  refine fn_in ?_; refine acl_in Tryz.func188 rfl isfn_188 (Nat.le_of_ble_eq_true rfl) (fun R hR => ?_); rw [Tryz.results188] at hR; refine wg_run ?_; (simp only [Tryz.f188, go_sem, h])
  repeat' (first | (first | (simp only [go_sem, h]) | (((first | apply sp1 | apply sp2 | apply sp3 | apply sp4 | apply sp5 | apply sp6 | apply sp7) <;> intro hb) <;> (simp only [go_sem, hb, h])) | ((first | apply wm_done | apply wt_done | apply wg_run | refine fk ?_ ?_) <;> (simp only [go_sem, h]))) | fail)
  all_goals (refine hR _ ?_; refine rat [] (hK := ⟨rfl, rfl⟩))
theorem want5 (t : Tm) (h : t.kind = 5) (s v : T)  : AFn Tryz.prog 188 [.agg (teC t), .one (.sl [tyC s.ty]), .agg (tyC v.ty)] (.one (.sl [tyC s.ty])) := by
  refine fn_in ?_; refine acl_in Tryz.func188 rfl isfn_188 (Nat.le_of_ble_eq_true rfl) (fun R hR => ?_); rw [Tryz.results188] at hR; refine wg_run ?_; (simp only [Tryz.f188, go_sem, h])
  repeat' (first | (first | (simp only [go_sem, h]) | (((first | apply sp1 | apply sp2 | apply sp3 | apply sp4 | apply sp5 | apply sp6 | apply sp7) <;> intro hb) <;> (simp only [go_sem, hb, h])) | ((first | apply wm_done | apply wt_done | apply wg_run | refine fk ?_ ?_) <;> (simp only [go_sem, h]))) | fail)
  all_goals (refine hR _ ?_; refine rat [] (hK := ⟨rfl, rfl⟩))
theorem want11 (t : Tm) (h : t.kind = 11) (s v : T) (p q : T) (hm : s.mpr = some (p, q)) (hs : s.depth ≤ 4) : AFn Tryz.prog 188 [.agg (teC t), .one (.sl [tyC s.ty]), .agg (tyC v.ty)] (.one (.sl [tyC (T.pr p q).ty])) := by
  have h1 := l3MatchP s hs
  rw [hm] at h1
  simp only [tyO2] at h1
  have hd := T.mpr_depth hm hs
  have h2 := l3TwoP p q hd.1 hd.2
  refine fn_in ?_; refine acl_in Tryz.func188 rfl isfn_188 (Nat.le_of_ble_eq_true rfl) (fun R hR => ?_); rw [Tryz.results188] at hR; refine wg_run ?_; (simp only [Tryz.f188, go_sem, h])
  repeat' (first | (first | (simp only [go_sem, h]) | (((first | apply sp1 | apply sp2 | apply sp3 | apply sp4 | apply sp5 | apply sp6 | apply sp7) <;> intro hb) <;> (simp only [go_sem, hb, h])) | ((first | apply wm_done | apply wt_done | apply wg_run | refine fk ?_ ?_) <;> (simp only [go_sem, h]))) | ((first | refine mxq6 [] ?_ | refine mxq5 [] ?_ | refine mxq4 [] ?_ | refine mxq3 [] ?_ | refine mxq2 [] ?_ | refine mxq1 [] ?_ | refine mxq0 [] ?_ | fail); (simp only [go_sem])) | (first | refine cdq ?_ (hc := h1) | refine cmq ?_ (hc := h1) | refine ctq ?_ (hc := h1)); (simp only [go_sem]) | (first | refine cdq ?_ (hc := h2) | refine cmq ?_ (hc := h2) | refine ctq ?_ (hc := h2)); (simp only [go_sem]) | fail)
  all_goals (refine hR _ ?_; refine rat [] (hK := ⟨rfl, rfl⟩))
theorem want12 (t : Tm) (h : t.kind = 12) (s v : T) (p q : T) (hm : s.mpr = some (p, q)) (hs : s.depth ≤ 4) : AFn Tryz.prog 188 [.agg (teC t), .one (.sl [tyC s.ty]), .agg (tyC v.ty)] (.one (.sl [tyC (T.pr p q).ty])) := by
  have h1 := l3MatchP s hs
  rw [hm] at h1
  simp only [tyO2] at h1
  have hd := T.mpr_depth hm hs
  have h2 := l3TwoP p q hd.1 hd.2
  refine fn_in ?_; refine acl_in Tryz.func188 rfl isfn_188 (Nat.le_of_ble_eq_true rfl) (fun R hR => ?_); rw [Tryz.results188] at hR; refine wg_run ?_; (simp only [Tryz.f188, go_sem, h])
  repeat' (first | (first | (simp only [go_sem, h]) | (((first | apply sp1 | apply sp2 | apply sp3 | apply sp4 | apply sp5 | apply sp6 | apply sp7) <;> intro hb) <;> (simp only [go_sem, hb, h])) | ((first | apply wm_done | apply wt_done | apply wg_run | refine fk ?_ ?_) <;> (simp only [go_sem, h]))) | ((first | refine mxq6 [] ?_ | refine mxq5 [] ?_ | refine mxq4 [] ?_ | refine mxq3 [] ?_ | refine mxq2 [] ?_ | refine mxq1 [] ?_ | refine mxq0 [] ?_ | fail); (simp only [go_sem])) | (first | refine cdq ?_ (hc := h1) | refine cmq ?_ (hc := h1) | refine ctq ?_ (hc := h1)); (simp only [go_sem]) | (first | refine cdq ?_ (hc := h2) | refine cmq ?_ (hc := h2) | refine ctq ?_ (hc := h2)); (simp only [go_sem]) | fail)
  all_goals (refine hR _ ?_; refine rat [] (hK := ⟨rfl, rfl⟩))
theorem want13 (t : Tm) (h : t.kind = 13) (s v : T)  : AFn Tryz.prog 188 [.agg (teC t), .one (.sl [tyC s.ty]), .agg (tyC v.ty)] (.one (.sl [tyC v.ty])) := by
  refine fn_in ?_; refine acl_in Tryz.func188 rfl isfn_188 (Nat.le_of_ble_eq_true rfl) (fun R hR => ?_); rw [Tryz.results188] at hR; refine wg_run ?_; (simp only [Tryz.f188, go_sem, h])
  repeat' (first | (first | (simp only [go_sem, h]) | (((first | apply sp1 | apply sp2 | apply sp3 | apply sp4 | apply sp5 | apply sp6 | apply sp7) <;> intro hb) <;> (simp only [go_sem, hb, h])) | ((first | apply wm_done | apply wt_done | apply wg_run | refine fk ?_ ?_) <;> (simp only [go_sem, h]))) | fail)
  all_goals (refine hR _ ?_; refine rat [] (hK := ⟨rfl, rfl⟩))
theorem want0 (t : Tm) (h : t.kind = 1 ∨ t.kind = 2 ∨ t.kind = 3 ∨ t.kind = 4) (v : T) : AFn Tryz.prog 188 [.agg (teC t), .one (.sl []), .agg (tyC v.ty)] (.one (.sl [])) := by
  rcases h with h | h | h | h
  all_goals
    refine fn_in ?_; refine acl_in Tryz.func188 rfl isfn_188 (Nat.le_of_ble_eq_true rfl) (fun R hR => ?_); rw [Tryz.results188] at hR; refine wg_run ?_; (simp only [Tryz.f188, go_sem, h])
    repeat' (first | (first | (simp only [go_sem, h]) | (((first | apply sp1 | apply sp2 | apply sp3 | apply sp4 | apply sp5 | apply sp6 | apply sp7) <;> intro hb) <;> (simp only [go_sem, hb, h])) | ((first | apply wm_done | apply wt_done | apply wg_run | refine fk ?_ ?_) <;> (simp only [go_sem, h]))) | fail)
    all_goals (refine hR _ ?_; refine rat [] (hK := ⟨rfl, rfl⟩))
end Go.Proofs.YtnaebafafhamjaaGreat
