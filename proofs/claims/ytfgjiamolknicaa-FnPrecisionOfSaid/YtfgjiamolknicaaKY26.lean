/- Texts of the proof, one behind another. -/
import Derived.Test.YtfgjiamolknicaaKY21
import Derived.Test.YtfgjiamolknicaaKY24
import Derived.Test.YtfgjiamolknicaaKY25
set_option linter.unusedSimpArgs false
set_option linter.unusedVariables false
/- Erased, blurred and measured terms: the laws' walks. On shadows. -/
namespace Go.Proofs.Ytfgjiamolknicaa
open Go.RowKit Go.Proofs.Sh Go.Proofs.Grad
set_option maxRecDepth 100000
set_option maxHeartbeats 16000000
theorem iNodes (n : Nat) (hn : n ≤ 4398046511104) : ∀ t : Tm, t.size < n → AFn Try.prog 100 [.agg (teC t)] (.one (.sc (.int .i64 (t.nodes : Nat)))) := by
  induction n with
  | zero => intro t h; omega
  | succ n ih =>
    intro t h
    have hl := telen_lt t
    have hnl := t.nodes_le
    have hne := t.nodes_eq
    refine fn_in ?_; refine acl_in Try.func100 rfl isfn_100 (Nat.le_of_ble_eq_true rfl) (fun R hR => ?_); rw [Try.results100] at hR; refine wg_run ?_; (simp only [Try.f100, go_sem])
    refine wd_for [3, 7, 8, 9] (fun k => [.one (.sc (.int .i64 ((1 + Tm.nodess (t.kids.take k) : Nat) : Int))), .one (.sl (teR t.kids)), .one (.sc (.int .i64 t.kids.length)), .one (.sc (.int .i64 (k : Nat)))]) (fun _ => [])
      (fun k => k ≤ t.kids.length) (fun k => t.kids.length - k) 0 (Nat.zero_le _) (hat [] (hI := ⟨rfl, rfl⟩)) ?_
    rintro k hk G hG
    refine wg_run ?_
    (simp only [go_sem])
    ((first | apply sp1 | apply sp2 | apply sp3 | apply sp4 | apply sp5 | apply sp6 | apply sp7) <;> intro hb) <;> (simp only [go_sem, hb])
    · have hk1 : k < t.kids.length := by have := of_decide_eq_true hb; omega
      have hw1 := wrap_succ hk1 (by omega)
      have hle1 := Tm.nodess_le_take t.kids (k + 1)
      have hst1 := Tm.nodess_take hk1
      have hw2 : IntKind.i64.wrap (((1 + Tm.nodess (t.kids.take k) : Nat) : Int) + ((teKid t.kids k).nodes : Int)) = ((1 + Tm.nodess (t.kids.take (k + 1)) : Nat) : Int) := by
        rw [hst1, IntWalk.i64_in _ (by omega)]; omega
      have hc := ih (by omega) (teKid t.kids k) (by have := teKid_lt hk1; omega)
      repeat' (first | (first | (simp only [go_sem, hw1, hw2, hb]) | (((first | apply sp1 | apply sp2 | apply sp3 | apply sp4 | apply sp5 | apply sp6 | apply sp7) <;> intro hb) <;> (simp only [go_sem, hb, hw1, hw2, hb])) | ((first | apply wm_done | apply wt_done | apply wg_run | refine fk ?_ ?_) <;> (simp only [go_sem, hw1, hw2, hb]))) | (first | refine cdq ?_ (hc := hc) | refine cmq ?_ (hc := hc) | refine ctq ?_ (hc := hc)); (simp only [go_sem]))
      exact hG (k + 1) _ _ (by omega) (by omega) (hat [] (hI := ⟨rfl, rfl⟩))
    · have hk1 : t.kids.take k = t.kids := List.take_of_length_le (by have := of_decide_eq_false hb; omega)
      rw [hk1, ← hne]
      (refine hR _ (rat [] (hK := ⟨rfl, rfl⟩)))
theorem iCountNodes (e : E) (h : e.okT = true) : AFn Try.prog 36 [.agg (teC e.tm)] (.one (.sc (.int .i64 (e.nodes : Nat)))) := by
  have hv := iTermV e.tm
  rw [E.termV_tm, h] at hv
  have hz := E.size_okT h
  have h1 := iNodes 100000 (by omega) e.tm (by omega)
  rw [E.tm_nodes] at h1
  refine fn_in ?_; refine acl_in Try.func36 rfl isfn_36 (Nat.le_of_ble_eq_true rfl) (fun R hR => ?_); rw [Try.results36] at hR; refine wg_run ?_; (simp only [Try.f36, go_sem])
  repeat' (first | (first | (((first | apply sp1 | apply sp2 | apply sp3 | apply sp4 | apply sp5 | apply sp6 | apply sp7) <;> intro hb) <;> (simp only [go_sem, hb])) | ((first | apply wm_done | apply wt_done | apply wg_run | refine fk ?_ ?_) <;> (simp only [go_sem]))) | (first | refine cdq ?_ (hc := hv) | refine cmq ?_ (hc := hv) | refine ctq ?_ (hc := hv)); (simp only [go_sem]) | (first | refine cdq ?_ (hc := h1) | refine cmq ?_ (hc := h1) | refine ctq ?_ (hc := h1)); (simp only [go_sem]) | fail)
  (refine hR _ (rat [] (hK := ⟨rfl, rfl⟩)))
theorem iCountAny1 : AFn Try.prog 34 [.agg (tyC (.mk 1 []))] (.one (.sc (.int .i64 1))) := by
  have hv := iValid (.mk 1 [])
  rw [show Ty.valid (.mk 1 []) = true from rfl] at hv
  have hc := iCount 100 (by omega) (.mk 1 []) (by simp [Ty.size, Ty.sizes])
  rw [show (Ty.count (.mk 1 []) : Int) = 1 from rfl] at hc
  refine fn_in ?_; refine acl_in Try.func34 rfl isfn_34 (Nat.le_of_ble_eq_true rfl) (fun R hR => ?_); rw [Try.results34] at hR; refine wg_run ?_; (simp only [Try.f34, go_sem])
  repeat' (first | (first | (((first | apply sp1 | apply sp2 | apply sp3 | apply sp4 | apply sp5 | apply sp6 | apply sp7) <;> intro hb) <;> (simp only [go_sem, hb])) | ((first | apply wm_done | apply wt_done | apply wg_run | refine fk ?_ ?_) <;> (simp only [go_sem]))) | (first | refine cdq ?_ (hc := hv) | refine cmq ?_ (hc := hv) | refine ctq ?_ (hc := hv)); (simp only [go_sem]) | (first | refine cdq ?_ (hc := hc) | refine cmq ?_ (hc := hc) | refine ctq ?_ (hc := hc)); (simp only [go_sem]) | fail)
  (refine hR _ (rat [] (hK := ⟨rfl, rfl⟩)))
theorem iDepth1 : AFn Try.prog 99 [.agg (tyC (.mk 1 []))] (.one (.sc (.int .i64 1))) := by
  have hw : IntKind.i64.wrap (0 + 1) = 1 := by decide
  refine fn_in ?_; refine acl_in Try.func99 rfl isfn_99 (Nat.le_of_ble_eq_true rfl) (fun R hR => ?_); rw [Try.results99] at hR; refine wg_run ?_; (simp only [Try.f99, go_sem])
  repeat' (first | (first | (simp only [go_sem, hw]) | (((first | apply sp1 | apply sp2 | apply sp3 | apply sp4 | apply sp5 | apply sp6 | apply sp7) <;> intro hb) <;> (simp only [go_sem, hb, hw])) | ((first | apply wm_done | apply wt_done | apply wg_run | refine fk ?_ ?_) <;> (simp only [go_sem, hw]))) | (first | (refine wl_next (wg_run ?_); (simp only [go_sem])) | refine wd_rounds 6 ?_) | fail)
  (refine hR _ (rat [] (hK := ⟨rfl, rfl⟩)))
theorem iTypeDepth1 : AFn Try.prog 35 [.agg (tyC (.mk 1 []))] (.one (.sc (.int .i64 1))) := by
  have hv := iValid (.mk 1 [])
  rw [show Ty.valid (.mk 1 []) = true from rfl] at hv
  have hc := iDepth1
  refine fn_in ?_; refine acl_in Try.func35 rfl isfn_35 (Nat.le_of_ble_eq_true rfl) (fun R hR => ?_); rw [Try.results35] at hR; refine wg_run ?_; (simp only [Try.f35, go_sem])
  repeat' (first | (first | (((first | apply sp1 | apply sp2 | apply sp3 | apply sp4 | apply sp5 | apply sp6 | apply sp7) <;> intro hb) <;> (simp only [go_sem, hb])) | ((first | apply wm_done | apply wt_done | apply wg_run | refine fk ?_ ?_) <;> (simp only [go_sem]))) | (first | refine cdq ?_ (hc := hv) | refine cmq ?_ (hc := hv) | refine ctq ?_ (hc := hv)); (simp only [go_sem]) | (first | refine cdq ?_ (hc := hc) | refine cmq ?_ (hc := hc) | refine ctq ?_ (hc := hc)); (simp only [go_sem]) | fail)
  (refine hR _ (rat [] (hK := ⟨rfl, rfl⟩)))
theorem lEraseTerm (l : List Int) (hc : ∀ k, 0 ≤ byte l k ∧ byte l k < 256) : AFn Try.prog 7 [.one (.sl (byR l))] (.one (.sc (.bool true))) := by
  by_cases hlen : 1048576 < l.length
  · have hg : decide (((l.length : Nat) : Int) > 1048576) = true := by simp; omega
    refine fn_in ?_; refine acl_in Try.func7 rfl isfn_7 (Nat.le_of_ble_eq_true rfl) (fun R hR => ?_); rw [Try.results7] at hR; refine wg_run ?_; (simp only [Try.f7, go_sem, hg])
    (refine hR _ (rat [] (hK := ⟨rfl, rfl⟩)))
  · have hg : decide (((l.length : Nat) : Int) > 1048576) = false := by simp; omega
    have hd := dEraseTerm l ⟨by omega, hc⟩
    refine fn_in ?_; refine acl_in Try.func7 rfl isfn_7 (Nat.le_of_ble_eq_true rfl) (fun R hR => ?_); rw [Try.results7] at hR; refine wg_run ?_; (simp only [Try.f7, go_sem, hg])
    ((first | refine kdq [] ?_ (hc := hd) | refine kmq [] ?_ (hc := hd) | refine ktq [] ?_ (hc := hd)); rintro _ _ ⟨x, rfl, hx, rfl⟩ <;> (simp only [go_sem]))
    cases ev : x.termV
    · have h1 := iEraseBad x ev
      have h2 := sEraseBad x ev (by omega)
      have ht0 : tm0.size ≤ 10 := by simp [tm0, noTy, Tm.size, Ty.size, Ty.sizes, Tm.sizes]
      have h3 := tmRefl tm0 (by omega)
      generalize tm0 = t0 at *
      repeat' (first | (first | (simp only [go_sem, int_bne, beq_self_eq_true]) | (((first | apply sp1 | apply sp2 | apply sp3 | apply sp4 | apply sp5 | apply sp6 | apply sp7) <;> intro hb) <;> (simp only [go_sem, hb, int_bne, beq_self_eq_true])) | ((first | apply wm_done | apply wt_done | apply wg_run | refine fk ?_ ?_) <;> (simp only [go_sem, int_bne, beq_self_eq_true]))) | (first | refine cdq ?_ (hc := h1) | refine cmq ?_ (hc := h1) | refine ctq ?_ (hc := h1)); (simp only [go_sem]) | (first | refine cdq ?_ (hc := h2) | refine cmq ?_ (hc := h2) | refine ctq ?_ (hc := h2)); (simp only [go_sem]) | (first | refine cdq ?_ (hc := h3) | refine cmq ?_ (hc := h3) | refine ctq ?_ (hc := h3)); (simp only [go_sem]) | ((first | refine mxq6 [] ?_ | refine mxq5 [] ?_ | refine mxq4 [] ?_ | refine mxq3 [] ?_ | refine mxq2 [] ?_ | refine mxq1 [] ?_ | refine mxq0 [] ?_ | fail); (simp only [go_sem, int_bne, beq_self_eq_true])) | fail)
      all_goals (refine hR _ (rat [] (hK := ⟨rfl, rfl⟩)))
    · obtain ⟨e, rfl, ho⟩ := Tm.termV_E ev
      have ho2 := E.era_okT ho
      have hz := E.size_okT ho2
      have h1 := iErase e ho
      have h2 := sErase e ho
      have h3 := tmRefl (e.mapE E.era1).tm (by omega)
      have h4 := iErase (e.mapE E.era1) ho2
      rw [E.era_era] at h4
      have h5 := iTermTypes (e.mapE E.era1).tm (by omega)
      rw [typesV_E ho2, E.era_tl] at h5
      have h6 := iFreeNames e ho
      have h7 := iFreeNames (e.mapE E.era1) ho2
      rw [show (fun x => (e.mapE E.era1).fr x) = (fun x => e.fr x) from by funext y; rw [E.era_fr]] at h7
      have h8 := iCountNodes e ho
      have h9 := iCountNodes (e.mapE E.era1) ho2
      rw [E.era_nodes] at h9
      have hn30 := nt30 ho
      have hL : ∀ k, k < e.nt → kid ((List.replicate e.nt T.any).map T.ty) k = .mk 1 [] := by
        intro k hk
        rw [kid_eq (by simpa using hk)]
        simp [T.ty]
      have hlL : ((List.replicate e.nt T.any).map T.ty).length = e.nt := by simp
      generalize (List.replicate e.nt T.any).map T.ty = L at *
      generalize names (fun x => e.fr x) = m at *
      generalize (e.mapE E.era1).tm = t2 at *
      generalize e.tm = t at *
      generalize e.nt = n at *
      generalize e.nodes = nn at *
      repeat' (first | (first | (simp only [go_sem, int_bne, beq_self_eq_true]) | (((first | apply sp1 | apply sp2 | apply sp3 | apply sp4 | apply sp5 | apply sp6 | apply sp7) <;> intro hb) <;> (simp only [go_sem, hb, int_bne, beq_self_eq_true])) | ((first | apply wm_done | apply wt_done | apply wg_run | refine fk ?_ ?_) <;> (simp only [go_sem, int_bne, beq_self_eq_true]))) | (first | refine cdq ?_ (hc := h1) | refine cmq ?_ (hc := h1) | refine ctq ?_ (hc := h1)); (simp only [go_sem]) | (first | refine cdq ?_ (hc := h2) | refine cmq ?_ (hc := h2) | refine ctq ?_ (hc := h2)); (simp only [go_sem]) | (first | refine cdq ?_ (hc := h3) | refine cmq ?_ (hc := h3) | refine ctq ?_ (hc := h3)); (simp only [go_sem]) | (first | refine cdq ?_ (hc := h4) | refine cmq ?_ (hc := h4) | refine ctq ?_ (hc := h4)); (simp only [go_sem]) | (first | refine cdq ?_ (hc := h5) | refine cmq ?_ (hc := h5) | refine ctq ?_ (hc := h5)); (simp only [go_sem]) | fail)
      refine wd_for (σ := Nat) [3, 4, 8, 9, 10, 11] (fun k => [.one (.ptr 9 0 0 0), .one (.ptr 9 1 0 0), .one (.ptr 9 2 0 0), .one (.sc (.bool true)), .one (.sl (tyR L)), .one (.sc (.int .i64 (k : Nat)))])
        (fun _ => [⟨9, 28, .mut, [teC t]⟩, ⟨9, 28, .mut, [teC t2]⟩, ⟨9, 28, .mut, [teC t2]⟩])
        (fun k => k ≤ L.length) (fun k => L.length - k) 0 (Nat.zero_le _) (hat [0, 1, 3] (hI := ⟨rfl, rfl⟩)) ?_
      rintro k hk G hG
      refine wg_run ?_
      (simp only [go_sem])
      ((first | apply sp1 | apply sp2 | apply sp3 | apply sp4 | apply sp5 | apply sp6 | apply sp7) <;> intro hb) <;> (simp only [go_sem, hb])
      · have hk1 : k < L.length := by have := of_decide_eq_true hb; omega
        have hw1 := wrap_succ hk1 (by omega)
        have hkk := hL k (by omega)
        have c1 := iCountAny1
        have c2 := iTypeDepth1
        rw [← hkk] at c1 c2
        repeat' (first | (first | (simp only [go_sem, hw1, hb, int_bne, beq_self_eq_true]) | (((first | apply sp1 | apply sp2 | apply sp3 | apply sp4 | apply sp5 | apply sp6 | apply sp7) <;> intro hb) <;> (simp only [go_sem, hb, hw1, hb, int_bne, beq_self_eq_true])) | ((first | apply wm_done | apply wt_done | apply wg_run | refine fk ?_ ?_) <;> (simp only [go_sem, hw1, hb, int_bne, beq_self_eq_true]))) | (first | refine cdq ?_ (hc := c1) | refine cmq ?_ (hc := c1) | refine ctq ?_ (hc := c1)); (simp only [go_sem]) | (first | refine cdq ?_ (hc := c2) | refine cmq ?_ (hc := c2) | refine ctq ?_ (hc := c2)); (simp only [go_sem]) | fail)
        exact hG (k + 1) _ _ (by omega) (by omega) (hat [0, 1, 2] (hI := ⟨rfl, rfl⟩))
      · clear hG
        repeat' (first | (first | (simp only [go_sem, int_bne, beq_self_eq_true]) | (((first | apply sp1 | apply sp2 | apply sp3 | apply sp4 | apply sp5 | apply sp6 | apply sp7) <;> intro hb) <;> (simp only [go_sem, hb, int_bne, beq_self_eq_true])) | ((first | apply wm_done | apply wt_done | apply wg_run | refine fk ?_ ?_) <;> (simp only [go_sem, int_bne, beq_self_eq_true]))) | (first | refine cdq ?_ (hc := h3) | refine cmq ?_ (hc := h3) | refine ctq ?_ (hc := h3)); (simp only [go_sem]) | (first | refine cdq ?_ (hc := h6) | refine cmq ?_ (hc := h6) | refine ctq ?_ (hc := h6)); (simp only [go_sem]) | (first | refine cdq ?_ (hc := h7) | refine cmq ?_ (hc := h7) | refine ctq ?_ (hc := h7)); (simp only [go_sem]) | (first | refine cdq ?_ (hc := h8) | refine cmq ?_ (hc := h8) | refine ctq ?_ (hc := h8)); (simp only [go_sem]) | (first | refine cdq ?_ (hc := h9) | refine cmq ?_ (hc := h9) | refine ctq ?_ (hc := h9)); (simp only [go_sem]) | ((first | refine mxq6 [] ?_ | refine mxq5 [] ?_ | refine mxq4 [] ?_ | refine mxq3 [] ?_ | refine mxq2 [] ?_ | refine mxq1 [] ?_ | refine mxq0 [] ?_ | fail); (simp only [go_sem, int_bne, beq_self_eq_true])) | (first | fail) | fail)
        all_goals (refine hR _ (rat [] (hK := ⟨rfl, rfl⟩)))
theorem iTermPrecise (a b : Tm) (ha : a.size < 4611686018427387904) : AFn Try.prog 45 [.agg (teC a), .agg (teC b)] (.one (.sc (.bool (a.termV && (b.termV && a.alk Ty.prec b))))) := by
  have h1 := iTermV a
  have h2 := iTermV b
  have h3 := iAlike 112 Ty.prec (fun x y hx => iPrec _ (Nat.le_refl _) x y hx) _ (Nat.le_refl _) a b ha
  cases e1 : a.termV <;> cases e2 : b.termV <;> rw [e1] at h1 <;> rw [e2] at h2
  all_goals
    simp only [Bool.true_and, Bool.false_and]
    refine fn_in ?_; refine acl_in Try.func45 rfl isfn_45 (Nat.le_of_ble_eq_true rfl) (fun R hR => ?_); rw [Try.results45] at hR; refine wg_run ?_; (simp only [Try.f45, go_sem])
    repeat' (first | (first | (((first | apply sp1 | apply sp2 | apply sp3 | apply sp4 | apply sp5 | apply sp6 | apply sp7) <;> intro hb) <;> (simp only [go_sem, hb])) | ((first | apply wm_done | apply wt_done | apply wg_run | refine fk ?_ ?_) <;> (simp only [go_sem]))) | (first | refine cdq ?_ (hc := h1) | refine cmq ?_ (hc := h1) | refine ctq ?_ (hc := h1)); (simp only [go_sem]) | (first | refine cdq ?_ (hc := h2) | refine cmq ?_ (hc := h2) | refine ctq ?_ (hc := h2)); (simp only [go_sem]) | (first | refine cdq ?_ (hc := h3) | refine cmq ?_ (hc := h3) | refine ctq ?_ (hc := h3)); (simp only [go_sem]) | ((first | refine mxq6 [] ?_ | refine mxq5 [] ?_ | refine mxq4 [] ?_ | refine mxq3 [] ?_ | refine mxq2 [] ?_ | refine mxq1 [] ?_ | refine mxq0 [] ?_ | fail); (simp only [go_sem])) | fail)
    (refine hR _ (rat [] (hK := ⟨rfl, rfl⟩)))
theorem lBlurTerm (l l2 : List Int) (hc : ∀ k, 0 ≤ byte l k ∧ byte l k < 256) (hc2 : ∀ k, 0 ≤ byte l2 k ∧ byte l2 k < 256) : AFn Try.prog 10 [.one (.sl (byR l)), .one (.sl (byR l2))] (.one (.sc (.bool true))) := by
  by_cases hlen : 1048576 < l.length
  · have hg : decide (((l.length : Nat) : Int) > 1048576) = true := by simp; omega
    refine fn_in ?_; refine acl_in Try.func10 rfl isfn_10 (Nat.le_of_ble_eq_true rfl) (fun R hR => ?_); rw [Try.results10] at hR; refine wg_run ?_; (simp only [Try.f10, go_sem, hg])
    repeat' (first | (first | (simp only [go_sem, hg]) | (((first | apply sp1 | apply sp2 | apply sp3 | apply sp4 | apply sp5 | apply sp6 | apply sp7) <;> intro hb) <;> (simp only [go_sem, hb, hg])) | ((first | apply wm_done | apply wt_done | apply wg_run | refine fk ?_ ?_) <;> (simp only [go_sem, hg]))) | fail)
    (refine hR _ (rat [] (hK := ⟨rfl, rfl⟩)))
  · have hg : decide (((l.length : Nat) : Int) > 1048576) = false := by simp; omega
    by_cases hlen2 : 1048576 < l2.length
    · have hg2 : decide (((l2.length : Nat) : Int) > 1048576) = true := by simp; omega
      refine fn_in ?_; refine acl_in Try.func10 rfl isfn_10 (Nat.le_of_ble_eq_true rfl) (fun R hR => ?_); rw [Try.results10] at hR; refine wg_run ?_; (simp only [Try.f10, go_sem, hg, hg2])
      repeat' (first | (first | (simp only [go_sem, hg, hg2]) | (((first | apply sp1 | apply sp2 | apply sp3 | apply sp4 | apply sp5 | apply sp6 | apply sp7) <;> intro hb) <;> (simp only [go_sem, hb, hg, hg2])) | ((first | apply wm_done | apply wt_done | apply wg_run | refine fk ?_ ?_) <;> (simp only [go_sem, hg, hg2]))) | fail)
      (refine hR _ (rat [] (hK := ⟨rfl, rfl⟩)))
    · have hg2 : decide (((l2.length : Nat) : Int) > 1048576) = false := by simp; omega
      have hd := dBlurTerm l ⟨by omega, hc⟩
      refine fn_in ?_; refine acl_in Try.func10 rfl isfn_10 (Nat.le_of_ble_eq_true rfl) (fun R hR => ?_); rw [Try.results10] at hR; refine wg_run ?_; (simp only [Try.f10, go_sem, hg, hg2])
      repeat' (first | (first | (simp only [go_sem, hg, hg2]) | (((first | apply sp1 | apply sp2 | apply sp3 | apply sp4 | apply sp5 | apply sp6 | apply sp7) <;> intro hb) <;> (simp only [go_sem, hb, hg, hg2])) | ((first | apply wm_done | apply wt_done | apply wg_run | refine fk ?_ ?_) <;> (simp only [go_sem, hg, hg2]))) | ((first | refine kdq [] ?_ (hc := hd) | refine kmq [] ?_ (hc := hd) | refine ktq [] ?_ (hc := hd)); rintro _ _ ⟨x, z, rfl, hx, hz, rfl⟩ <;> (simp only [go_sem])) | fail)
      have ht0 : tm0.size ≤ 10 := by simp [tm0, noTy, Tm.size, Ty.size, Ty.sizes, Tm.sizes]
      have h3 := tmRefl tm0 (by omega)
      cases ev : x.termV
      · have h1 := iBlurBad x ev z
        have h2 := sBlurBad x ev (by omega) z
        generalize tm0 = t0 at *
        repeat' (first | (first | (simp only [go_sem, int_bne, beq_self_eq_true]) | (((first | apply sp1 | apply sp2 | apply sp3 | apply sp4 | apply sp5 | apply sp6 | apply sp7) <;> intro hb) <;> (simp only [go_sem, hb, int_bne, beq_self_eq_true])) | ((first | apply wm_done | apply wt_done | apply wg_run | refine fk ?_ ?_) <;> (simp only [go_sem, int_bne, beq_self_eq_true]))) | (first | refine cdq ?_ (hc := h1) | refine cmq ?_ (hc := h1) | refine ctq ?_ (hc := h1)); (simp only [go_sem]) | (first | refine cdq ?_ (hc := h2) | refine cmq ?_ (hc := h2) | refine ctq ?_ (hc := h2)); (simp only [go_sem]) | (first | refine cdq ?_ (hc := h3) | refine cmq ?_ (hc := h3) | refine ctq ?_ (hc := h3)); (simp only [go_sem]) | ((first | refine mxq6 [] ?_ | refine mxq5 [] ?_ | refine mxq4 [] ?_ | refine mxq3 [] ?_ | refine mxq2 [] ?_ | refine mxq1 [] ?_ | refine mxq0 [] ?_ | fail); (simp only [go_sem, int_bne, beq_self_eq_true])) | fail)
        all_goals (refine hR _ (rat [] (hK := ⟨rfl, rfl⟩)))
      · obtain ⟨e, rfl, ho⟩ := Tm.termV_E ev
        by_cases hr : 0 ≤ z ∧ z < ((2 ^ e.nt : Nat) : Int)
        · obtain ⟨m, rfl⟩ := Int.eq_ofNat_of_zero_le hr.1
          have hm : m < 2 ^ e.nt := by omega
          clear hz
          have hn30 := nt30 ho
          have hp0 : 0 < 2 ^ e.nt := Nat.two_pow_pos _
          have hp30 : 2 ^ e.nt ≤ 2 ^ 30 := Nat.pow_le_pow_right (by omega) hn30
          have ho' := ho
          simp only [E.okT, Bool.and_eq_true, decide_eq_true_eq] at ho'
          have ho1 := E.blur_okT ho m
          have hz1 := E.size_okT ho
          have hz2 := E.size_okT ho1
          have h1 := iBlurTerm e ho m hm
          have h2 := sBlurTerm e ho m hm
          have h4 := tmRefl (e.blur m).tm (by omega)
          have hs := shl_at e.nt (by omega)
          have ho2 : l2.length % 2 ^ e.nt < 2 ^ e.nt := Nat.mod_lt _ hp0
          have h5 := iBlurTerm (e.blur m) ho1 (l2.length % 2 ^ e.nt) (by rw [E.blur_nt]; exact ho2)
          rw [E.blur_blur] at h5
          have hor : m ||| (l2.length % 2 ^ e.nt) < 2 ^ e.nt := Nat.or_lt_two_pow hm ho2
          have h6 := iBlurTerm e ho (m ||| (l2.length % 2 ^ e.nt)) hor
          have ho3 := E.blur_okT ho (m ||| (l2.length % 2 ^ e.nt))
          have hz3 := E.size_okT ho3
          have h7 := tmRefl (e.blur (m ||| (l2.length % 2 ^ e.nt))).tm (by omega)
          have h8 := iTermPrecise e.tm (e.blur m).tm (by omega)
          rw [E.termV_tm, E.termV_tm, ho, ho1, E.blur_prec ho'.2.1] at h8
          simp only [Bool.and_self] at h8
          have h9 := iCountSlots e.tm (by omega)
          rw [typesV_E ho, List.length_map, E.tl_length] at h9
          have hrem : ((l2.length : Nat) : Int).tmod ((2 ^ e.nt : Nat) : Int) = ((l2.length % 2 ^ e.nt : Nat) : Int) := by
            rw [Int.tmod_eq_emod_of_nonneg (by omega)]; exact (Int.natCast_emod _ _).symm
          have hne : decide (((2 ^ e.nt : Nat) : Int) = 0) = false := decide_eq_false (by have : (0 : Int) < ((2 ^ e.nt : Nat) : Int) := Int.natCast_pos.2 hp0; omega)
          have hora : IntKind.i64.wrap ((BitVec.ofInt IntKind.i64.bits (m : Int) ||| BitVec.ofInt IntKind.i64.bits ((l2.length % 2 ^ e.nt : Nat) : Int)).toNat : Nat) = ((m ||| (l2.length % 2 ^ e.nt) : Nat) : Int) := or_at m (l2.length % 2 ^ e.nt) (by omega) (by omega)
          simp only [go_sem] at hora
          generalize m ||| (l2.length % 2 ^ e.nt) = k3 at *
          generalize l2.length % 2 ^ e.nt = k2 at *
          generalize 2 ^ e.nt = x at *
          generalize (e.blur k3).tm = t3 at *
          generalize (e.blur m).tm = t2 at *
          generalize e.tm = t at *
          generalize e.nt = n at *
          repeat' (first | (first | (simp only [go_sem, int_bne, beq_self_eq_true, hs, hrem, hne, hora]) | (((first | apply sp1 | apply sp2 | apply sp3 | apply sp4 | apply sp5 | apply sp6 | apply sp7) <;> intro hb) <;> (simp only [go_sem, hb, int_bne, beq_self_eq_true, hs, hrem, hne, hora])) | ((first | apply wm_done | apply wt_done | apply wg_run | refine fk ?_ ?_) <;> (simp only [go_sem, int_bne, beq_self_eq_true, hs, hrem, hne, hora]))) | (first | refine cdq ?_ (hc := h1) | refine cmq ?_ (hc := h1) | refine ctq ?_ (hc := h1)); (simp only [go_sem]) | (first | refine cdq ?_ (hc := h2) | refine cmq ?_ (hc := h2) | refine ctq ?_ (hc := h2)); (simp only [go_sem]) | (first | refine cdq ?_ (hc := h4) | refine cmq ?_ (hc := h4) | refine ctq ?_ (hc := h4)); (simp only [go_sem]) | (first | refine cdq ?_ (hc := h9) | refine cmq ?_ (hc := h9) | refine ctq ?_ (hc := h9)); (simp only [go_sem]) | (first | refine cd (hp := (by (simp only [go_sem, hs, hrem, hne]); first | done | rfl)) (hc := h5) (hK := ?_) | refine cm (hp := (by (simp only [go_sem, hs, hrem, hne]); first | done | rfl)) (hc := h5) (hK := ?_) | refine ct (hp := (by (simp only [go_sem, hs, hrem, hne]); first | done | rfl)) (hc := h5) (hK := ?_)); (simp only [go_sem, hs, hrem, hne]) | (first | refine cd (hp := (by (simp only [go_sem, hora]); first | done | rfl)) (hc := h6) (hK := ?_) | refine cm (hp := (by (simp only [go_sem, hora]); first | done | rfl)) (hc := h6) (hK := ?_) | refine ct (hp := (by (simp only [go_sem, hora]); first | done | rfl)) (hc := h6) (hK := ?_)); (simp only [go_sem, hora]) | (first | refine cdq ?_ (hc := h7) | refine cmq ?_ (hc := h7) | refine ctq ?_ (hc := h7)); (simp only [go_sem]) | (first | refine cdq ?_ (hc := h8) | refine cmq ?_ (hc := h8) | refine ctq ?_ (hc := h8)); (simp only [go_sem]) | ((first | refine mxq6 [] ?_ | refine mxq5 [] ?_ | refine mxq4 [] ?_ | refine mxq3 [] ?_ | refine mxq2 [] ?_ | refine mxq1 [] ?_ | refine mxq0 [] ?_ | fail); (simp only [go_sem, int_bne, beq_self_eq_true, hs, hrem, hne, hora])) | fail)
          all_goals (refine hR _ (rat [] (hK := ⟨rfl, rfl⟩)))
        · have hr2 : z < 0 ∨ ((2 ^ e.nt : Nat) : Int) ≤ z := by omega
          have h1 := iBlurNot e ho z hr2
          have h2 := sBlurNot e ho z hr2
          generalize tm0 = t0 at *
          generalize e.tm = t at *
          repeat' (first | (first | (simp only [go_sem, int_bne, beq_self_eq_true]) | (((first | apply sp1 | apply sp2 | apply sp3 | apply sp4 | apply sp5 | apply sp6 | apply sp7) <;> intro hb) <;> (simp only [go_sem, hb, int_bne, beq_self_eq_true])) | ((first | apply wm_done | apply wt_done | apply wg_run | refine fk ?_ ?_) <;> (simp only [go_sem, int_bne, beq_self_eq_true]))) | (first | refine cdq ?_ (hc := h1) | refine cmq ?_ (hc := h1) | refine ctq ?_ (hc := h1)); (simp only [go_sem]) | (first | refine cdq ?_ (hc := h2) | refine cmq ?_ (hc := h2) | refine ctq ?_ (hc := h2)); (simp only [go_sem]) | (first | refine cdq ?_ (hc := h3) | refine cmq ?_ (hc := h3) | refine ctq ?_ (hc := h3)); (simp only [go_sem]) | ((first | refine mxq6 [] ?_ | refine mxq5 [] ?_ | refine mxq4 [] ?_ | refine mxq3 [] ?_ | refine mxq2 [] ?_ | refine mxq1 [] ?_ | refine mxq0 [] ?_ | fail); (simp only [go_sem, int_bne, beq_self_eq_true])) | fail)
          all_goals (refine hR _ (rat [] (hK := ⟨rfl, rfl⟩)))
theorem lPrecisionOf (l : List Int) (hc : ∀ k, 0 ≤ byte l k ∧ byte l k < 256) : AFn Try.prog 11 [.one (.sl (byR l))] (.one (.sc (.bool true))) := by
  by_cases hlen : 1048576 < l.length
  · have hg : decide (((l.length : Nat) : Int) > 1048576) = true := by simp; omega
    refine fn_in ?_; refine acl_in Try.func11 rfl isfn_11 (Nat.le_of_ble_eq_true rfl) (fun R hR => ?_); rw [Try.results11] at hR; refine wg_run ?_; (simp only [Try.f11, go_sem, hg])
    (refine hR _ (rat [] (hK := ⟨rfl, rfl⟩)))
  · have hg : decide (((l.length : Nat) : Int) > 1048576) = false := by simp; omega
    have hd := dTermPrecise l ⟨by omega, hc⟩
    refine fn_in ?_; refine acl_in Try.func11 rfl isfn_11 (Nat.le_of_ble_eq_true rfl) (fun R hR => ?_); rw [Try.results11] at hR; refine wg_run ?_; (simp only [Try.f11, go_sem, hg])
    ((first | refine kdq [] ?_ (hc := hd) | refine kmq [] ?_ (hc := hd) | refine ktq [] ?_ (hc := hd)); rintro _ _ ⟨a, b, rfl, ha, hb, rfl⟩ <;> (simp only [go_sem]))
    have h1 := iPrecisionOf a (by omega)
    have h2 := sPrecisionOf a (by omega)
    have h3 := iTermPrecise a b (by omega)
    cases ev : (a.termV && (b.termV && a.alk Ty.prec b))
    · rw [ev] at h3
      clear hc
      repeat' (first | (first | (simp only [go_sem, int_bne, beq_self_eq_true]) | (((first | apply sp1 | apply sp2 | apply sp3 | apply sp4 | apply sp5 | apply sp6 | apply sp7) <;> intro hb) <;> (simp only [go_sem, hb, int_bne, beq_self_eq_true])) | ((first | apply wm_done | apply wt_done | apply wg_run | refine fk ?_ ?_) <;> (simp only [go_sem, int_bne, beq_self_eq_true]))) | (first | refine cdq ?_ (hc := h1) | refine cmq ?_ (hc := h1) | refine ctq ?_ (hc := h1)); (simp only [go_sem]) | (first | refine cdq ?_ (hc := h2) | refine cmq ?_ (hc := h2) | refine ctq ?_ (hc := h2)); (simp only [go_sem]) | (first | refine cdq ?_ (hc := h3) | refine cmq ?_ (hc := h3) | refine ctq ?_ (hc := h3)); (simp only [go_sem]) | ((first | refine mxq6 [] ?_ | refine mxq5 [] ?_ | refine mxq4 [] ?_ | refine mxq3 [] ?_ | refine mxq2 [] ?_ | refine mxq1 [] ?_ | refine mxq0 [] ?_ | fail); (simp only [go_sem, int_bne, beq_self_eq_true])) | fail)
      all_goals (refine hR _ (rat [] (hK := ⟨rfl, rfl⟩)))
    · rw [ev] at h3
      simp only [Bool.and_eq_true] at ev
      obtain ⟨e, rfl, ho⟩ := Tm.termV_E ev.1
      obtain ⟨f, rfl, ho2⟩ := Tm.termV_E ev.2.1
      have ho' := ho
      have ho2' := ho2
      simp only [E.okT, Bool.and_eq_true, decide_eq_true_eq] at ho' ho2'
      have hz := E.size_okT ho
      obtain ⟨hw, hs⟩ := E.prec_wgs ho'.2.1 ho2'.2.1 ev.2.2
      have h4 := iPrecisionOf f.tm (by omega)
      rw [typesV_E ho, wgs_ty] at h1 h2
      rw [typesV_E ho2, wgs_ty] at h4
      have h5 := iErase e ho
      have h6 := iTmSame _ (Nat.le_refl _) e.tm f.tm (by omega)
      rw [← hs] at h6
      have ho3 := E.era_okT ho
      have hz3 := E.size_okT ho3
      have h7 := iPrecisionOf (e.mapE E.era1).tm (by omega)
      rw [typesV_E ho3, wgs_ty, E.era_tl, wgs_any] at h7
      have hge : decide ((wgs e.tl : Int) ≥ (wgs f.tl : Int)) = true := by simp; omega
      have heq : ((wgs e.tl : Int) == (wgs f.tl : Int)) = (wgs e.tl == wgs f.tl) := by
        rw [Bool.eq_iff_iff, beq_iff_eq, beq_iff_eq]; omega
      simp only [Int.natCast_zero] at h7
      generalize (wgs e.tl == wgs f.tl) = bb at *
      generalize wgs e.tl = w1 at *
      generalize wgs f.tl = w2 at *
      generalize (e.mapE E.era1).tm = t3 at *
      generalize e.tm = t at *
      generalize f.tm = t2 at *
      clear hc ev hs
      repeat' (first | (first | (simp only [go_sem, int_bne, beq_self_eq_true, hge, heq]) | (((first | apply sp1 | apply sp2 | apply sp3 | apply sp4 | apply sp5 | apply sp6 | apply sp7) <;> intro hb) <;> (simp only [go_sem, hb, int_bne, beq_self_eq_true, hge, heq])) | ((first | apply wm_done | apply wt_done | apply wg_run | refine fk ?_ ?_) <;> (simp only [go_sem, int_bne, beq_self_eq_true, hge, heq]))) | (first | refine cdq ?_ (hc := h1) | refine cmq ?_ (hc := h1) | refine ctq ?_ (hc := h1)); (simp only [go_sem]) | (first | refine cdq ?_ (hc := h2) | refine cmq ?_ (hc := h2) | refine ctq ?_ (hc := h2)); (simp only [go_sem]) | (first | refine cdq ?_ (hc := h3) | refine cmq ?_ (hc := h3) | refine ctq ?_ (hc := h3)); (simp only [go_sem]) | (first | refine cdq ?_ (hc := h4) | refine cmq ?_ (hc := h4) | refine ctq ?_ (hc := h4)); (simp only [go_sem]) | (first | refine cdq ?_ (hc := h5) | refine cmq ?_ (hc := h5) | refine ctq ?_ (hc := h5)); (simp only [go_sem]) | (first | refine cdq ?_ (hc := h6) | refine cmq ?_ (hc := h6) | refine ctq ?_ (hc := h6)); (simp only [go_sem]) | (first | refine cdq ?_ (hc := h7) | refine cmq ?_ (hc := h7) | refine ctq ?_ (hc := h7)); (simp only [go_sem]) | ((first | refine mxq6 [] ?_ | refine mxq5 [] ?_ | refine mxq4 [] ?_ | refine mxq3 [] ?_ | refine mxq2 [] ?_ | refine mxq1 [] ?_ | refine mxq0 [] ?_ | fail); (simp only [go_sem, int_bne, beq_self_eq_true, hge, heq])) | fail)
      all_goals (refine hR _ (rat [] (hK := ⟨rfl, rfl⟩)))
end Go.Proofs.Ytfgjiamolknicaa
