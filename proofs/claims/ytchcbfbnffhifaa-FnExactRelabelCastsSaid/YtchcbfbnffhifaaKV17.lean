/- Texts of the proof, one behind another. -/
import Derived.Test.YtchcbfbnffhifaaKV10
import Derived.Test.YtchcbfbnffhifaaKV14
import Derived.Test.YtchcbfbnffhifaaKV15
import Derived.Test.YtchcbfbnffhifaaKV16
set_option linter.unusedSimpArgs false
set_option linter.unusedVariables false
/- Casts made dynamic. On shadows. -/
namespace Go.Proofs.Grad
theorem T.any_cons (s : T) : T.any.cons s = true := by cases s <;> rfl
end Go.Proofs.Grad
namespace Go.Proofs.Ytchcbfbnffhifaa
open Go.RowKit Go.Proofs.Sh Go.Proofs.Grad
set_option maxRecDepth 100000
set_option maxHeartbeats 8000000
end Go.Proofs.Ytchcbfbnffhifaa
/- Casts numbered anew: the package's and the reference's. On shadows. -/
namespace Go.Proofs.Ytchcbfbnffhifaa
open Go.RowKit Go.Proofs.Sh Go.Proofs.Grad
set_option maxRecDepth 100000
set_option maxHeartbeats 8000000
theorem cntB0 : cntB 0 = ⟨1, 3, .mut, [[.sc (.int .i64 0)]]⟩ := rfl
theorem gt99 (n : Nat) : decide ((n : Int) > 99) = !decide (n ≤ 99) := by
  by_cases h : n ≤ 99
  · rw [decide_eq_true h, decide_eq_false (by omega)]; rfl
  · rw [decide_eq_false h, decide_eq_true (by omega)]; rfl
theorem iRelabelO (t : Tm) (ht : t.size < 100000000) : ACl Try.prog 43 [.agg (teC t)] [] (OwnK (teC (relT t)) (boolF (relB t))) := by
  have hv := iCastV t
  have hc := iCasts 100000000 (by omega) t ht
  have hn := t.nodes_le
  have hlen : (teR t.castsL).length = t.castsL.length := teR_length _
  have h99 := gt99 t.castsL.length
  unfold relT relB
  generalize t.castsL = L at *
  cases h : t.castV
  · rw [h] at hv
    refine own_none ?_
    simp only [Bool.false_and, boolF]
    simp only [tm0, noTy]
    refine fn_in ?_; refine acl_in Try.func43 rfl isfn_43 (Nat.le_of_ble_eq_true rfl) (fun R hR => ?_); rw [Try.results43] at hR; refine wg_run ?_; (simp only [Try.f43, go_sem])
    repeat' (first | (first | (((first | apply sp1 | apply sp2 | apply sp3 | apply sp4 | apply sp5 | apply sp6 | apply sp7) <;> intro hb) <;> (simp only [go_sem, hb])) | ((first | apply wm_done | apply wt_done | apply wg_run | refine fk ?_ ?_) <;> (simp only [go_sem]))) | (first | refine cdq ?_ (hc := hv) | refine cmq ?_ (hc := hv) | refine ctq ?_ (hc := hv)); (simp only [go_sem]) | fail)
    (refine hR _ ?_; refine rat [] (hK := ⟨rfl, rfl⟩))
  · rw [h] at hv
    cases h9 : decide (L.length ≤ 99)
    · rw [h9] at h99
      refine own_none ?_
      simp only [Bool.true_and, boolF]
      simp only [tm0, noTy]
      refine fn_in ?_; refine acl_in Try.func43 rfl isfn_43 (Nat.le_of_ble_eq_true rfl) (fun R hR => ?_); rw [Try.results43] at hR; refine wg_run ?_; (simp only [Try.f43, go_sem])
      repeat' (first | (first | (simp only [go_sem, hlen, h99]) | (((first | apply sp1 | apply sp2 | apply sp3 | apply sp4 | apply sp5 | apply sp6 | apply sp7) <;> intro hb) <;> (simp only [go_sem, hb, hlen, h99])) | ((first | apply wm_done | apply wt_done | apply wg_run | refine fk ?_ ?_) <;> (simp only [go_sem, hlen, h99]))) | (first | refine cdq ?_ (hc := hv) | refine cmq ?_ (hc := hv) | refine ctq ?_ (hc := hv)); (simp only [go_sem]) | (first | refine cdq ?_ (hc := hc) | refine cmq ?_ (hc := hc) | refine ctq ?_ (hc := hc)); (simp only [go_sem]) | fail)
      (refine hR _ ?_; refine rat [] (hK := ⟨rfl, rfl⟩))
    · rw [h9] at h99
      have hm := iMapRelO 100000000 (by omega) t ht 0 (by omega)
      rw [cntB0] at hm
      rw [Bool.true_and]
      refine acl_in Try.func43 rfl isfn_43 (Nat.le_of_ble_eq_true rfl) (fun R hR => ?_); rw [Try.results43] at hR; refine wg_run ?_; (simp only [Try.f43, go_sem])
      repeat' (first | (first | (simp only [go_sem, hlen, h99]) | (((first | apply sp1 | apply sp2 | apply sp3 | apply sp4 | apply sp5 | apply sp6 | apply sp7) <;> intro hb) <;> (simp only [go_sem, hb, hlen, h99])) | ((first | apply wm_done | apply wt_done | apply wg_run | refine fk ?_ ?_) <;> (simp only [go_sem, hlen, h99]))) | (first | refine cdq ?_ (hc := hv) | refine cmq ?_ (hc := hv) | refine ctq ?_ (hc := hv)); (simp only [go_sem]) | (first | refine cdq ?_ (hc := hc) | refine cmq ?_ (hc := hc) | refine ctq ?_ (hc := hc)); (simp only [go_sem]) | fail)
      refine wd_any (acalls_ownC (lb := 2) (by (simp only [go_sem]); first | done | rfl) hm) ?_
      rintro _ _ ⟨cs, d, ids, T, rfl, rfl, e1, e2, e3⟩
      have hcs : cs.length = 9 := by rw [← fzL_len e1, teC_length]
      have htk : cs.take 9 = cs := List.take_of_length_le (by omega)
      simp only [boolF]
      (simp only [go_sem, hcs])
      repeat' (first | (first | (simp only [go_sem, hcs, htk]) | (((first | apply sp1 | apply sp2 | apply sp3 | apply sp4 | apply sp5 | apply sp6 | apply sp7) <;> intro hb) <;> (simp only [go_sem, hb, hcs, htk])) | ((first | apply wm_done | apply wt_done | apply wg_run | refine fk ?_ ?_) <;> (simp only [go_sem, hcs, htk]))) | fail)
      refine hR _ (ret_ownK (d := d) (ids := ids) (cs := cs) (by (simp only [go_sem, hcs, htk]); first | done | rfl) ?_ e2 (fun _ => (WF.bool _).pr))
      refine owL_frame (h := _ :: _ :: _ :: T) e1 (fun b hb => ?_)
      have hb3 : 3 ≤ b := (e3 b hb).1
      obtain ⟨b, rfl⟩ : ∃ x, b = x + 3 := ⟨b - 3, by omega⟩
      rfl
theorem sRel (e : E) : e.wf = true → ∀ v : Nat, v + e.tm.size < 1000000000 → AFn Try.prog 93 [.agg (teC e.tm), .one (.sc (.int .i64 (v : Nat)))] (.tup [.agg (teC (e.tm.rel v).1), .one (.sc (.int .i64 ((e.tm.rel v).2 : Nat)))]) := by
  induction e with
  | var _ | num _ | tru | fls =>
    intro h v hz
    have hc := l2Copy 1000000000 (by omega) _ (Nat.lt_of_le_of_lt (Nat.le_add_left _ v) hz)
    simp only [E.tm, nd] at hc ⊢
    rw [Tm.rel_u (by rfl)]
    simp only [Tm.rels]
    refine fn_in ?_; refine acl_in Try.func93 rfl isfn_93 (Nat.le_of_ble_eq_true rfl) (fun R hR => ?_); rw [Try.results93] at hR; refine wg_run ?_; (simp only [Try.f93, go_sem])
    repeat' (first | (first | (simp only [go_sem, int_bne]) | (((first | apply sp1 | apply sp2 | apply sp3 | apply sp4 | apply sp5 | apply sp6 | apply sp7) <;> intro hb) <;> (simp only [go_sem, hb, int_bne])) | ((first | apply wm_done | apply wt_done | apply wg_run | refine fk ?_ ?_) <;> (simp only [go_sem, int_bne]))) | (first | (refine wl_next (wg_run ?_); (simp only [go_sem])) | refine wd_rounds 6 ?_) | (first | refine cdq ?_ (hc := hc) | refine cmq ?_ (hc := hc) | refine ctq ?_ (hc := hc)); (simp only [go_sem]) | fail)
    (refine hR _ (rat [] (hK := ⟨rfl, rfl⟩)))
  | app a b iha ihb | add a b iha ihb | less a b iha ihb | pair a b iha ihb =>
    intro h v hz
    simp only [E.wf, Bool.and_eq_true] at h
    have hc := l2CopyS _ (by simp [E.tm, nd, Tm.kids]) (Nat.lt_of_le_of_lt (Nat.le_add_left _ v) (Nat.lt_trans hz (by omega)))
    simp only [E.tm, nd, Tm.size, Tm.sizes] at hz
    have na := a.tm.rel_le v
    have na2 := a.tm.nodes_le
    have iha := iha h.1 v (by omega)
    have ihb := ihb h.2 (a.tm.rel v).2 (by omega)
    simp only [E.tm, nd, teK, Tm.kind, Tm.name, Tm.num, Tm.type, Tm.frm, Tm.label, Tm.kids, teR, List.length_cons, List.length_nil] at hc ⊢
    rw [Tm.rel_u (by rfl)]
    simp only [Tm.rels]
    refine fn_in ?_; refine acl_in Try.func93 rfl isfn_93 (Nat.le_of_ble_eq_true rfl) (fun R hR => ?_); rw [Try.results93] at hR; refine wg_run ?_; (simp only [Try.f93, go_sem])
    repeat' (first | (first | (simp only [go_sem, int_bne]) | (((first | apply sp1 | apply sp2 | apply sp3 | apply sp4 | apply sp5 | apply sp6 | apply sp7) <;> intro hb) <;> (simp only [go_sem, hb, int_bne])) | ((first | apply wm_done | apply wt_done | apply wg_run | refine fk ?_ ?_) <;> (simp only [go_sem, int_bne]))) | (first | (refine wl_next (wg_run ?_); (simp only [go_sem])) | refine wd_rounds 6 ?_) | ((first | refine kdq [] ?_ (hc := hc) | refine kmq [] ?_ (hc := hc) | refine ktq [] ?_ (hc := hc)); rintro _ _ ⟨rfl, rfl⟩ <;> (simp only [go_sem])) | (first | refine cdq ?_ (hc := iha) | refine cmq ?_ (hc := iha) | refine ctq ?_ (hc := iha)); (simp only [go_sem]) | (first | refine cdq ?_ (hc := ihb) | refine cmq ?_ (hc := ihb) | refine ctq ?_ (hc := ihb)); (simp only [go_sem]) | ((first | refine mxq6 [] ?_ | refine mxq5 [] ?_ | refine mxq4 [] ?_ | refine mxq3 [] ?_ | refine mxq2 [] ?_ | refine mxq1 [] ?_ | refine mxq0 [] ?_ | fail); (simp only [go_sem])) | fail)
    (refine hR _ (rat [] (hK := ⟨rfl, rfl⟩)))
  | ite a b c iha ihb ihc =>
    intro h v hz
    simp only [E.wf, Bool.and_eq_true] at h
    have hc := l2CopyS _ (by simp [E.tm, nd, Tm.kids]) (Nat.lt_of_le_of_lt (Nat.le_add_left _ v) (Nat.lt_trans hz (by omega)))
    simp only [E.tm, nd, Tm.size, Tm.sizes] at hz
    have na := a.tm.rel_le v
    have na2 := a.tm.nodes_le
    have nb := b.tm.rel_le (a.tm.rel v).2
    have nb2 := b.tm.nodes_le
    have iha := iha h.1 v (by omega)
    have ihb := ihb h.2.1 (a.tm.rel v).2 (by omega)
    have ihc := ihc h.2.2 (b.tm.rel (a.tm.rel v).2).2 (by omega)
    simp only [E.tm, nd, teK, Tm.kind, Tm.name, Tm.num, Tm.type, Tm.frm, Tm.label, Tm.kids, teR, List.length_cons, List.length_nil] at hc ⊢
    rw [Tm.rel_u (by rfl)]
    simp only [Tm.rels]
    refine fn_in ?_; refine acl_in Try.func93 rfl isfn_93 (Nat.le_of_ble_eq_true rfl) (fun R hR => ?_); rw [Try.results93] at hR; refine wg_run ?_; (simp only [Try.f93, go_sem])
    repeat' (first | (first | (simp only [go_sem, int_bne]) | (((first | apply sp1 | apply sp2 | apply sp3 | apply sp4 | apply sp5 | apply sp6 | apply sp7) <;> intro hb) <;> (simp only [go_sem, hb, int_bne])) | ((first | apply wm_done | apply wt_done | apply wg_run | refine fk ?_ ?_) <;> (simp only [go_sem, int_bne]))) | (first | (refine wl_next (wg_run ?_); (simp only [go_sem])) | refine wd_rounds 6 ?_) | ((first | refine kdq [] ?_ (hc := hc) | refine kmq [] ?_ (hc := hc) | refine ktq [] ?_ (hc := hc)); rintro _ _ ⟨rfl, rfl⟩ <;> (simp only [go_sem])) | (first | refine cdq ?_ (hc := iha) | refine cmq ?_ (hc := iha) | refine ctq ?_ (hc := iha)); (simp only [go_sem]) | (first | refine cdq ?_ (hc := ihb) | refine cmq ?_ (hc := ihb) | refine ctq ?_ (hc := ihb)); (simp only [go_sem]) | (first | refine cdq ?_ (hc := ihc) | refine cmq ?_ (hc := ihc) | refine ctq ?_ (hc := ihc)); (simp only [go_sem]) | ((first | refine mxq6 [] ?_ | refine mxq5 [] ?_ | refine mxq4 [] ?_ | refine mxq3 [] ?_ | refine mxq2 [] ?_ | refine mxq1 [] ?_ | refine mxq0 [] ?_ | fail); (simp only [go_sem])) | fail)
    (refine hR _ (rat [] (hK := ⟨rfl, rfl⟩)))
  | cast s t l a ih =>
    intro h v hz
    simp only [E.wf, Bool.and_eq_true, decide_eq_true_eq] at h
    have hc := l2CopyS _ (by simp [E.tm, nd, Tm.kids]) (Nat.lt_of_le_of_lt (Nat.le_add_left _ v) (Nat.lt_trans hz (by omega)))
    simp only [E.tm, nd, Tm.size, Tm.sizes] at hz
    have na := a.tm.rel_le v
    have na2 := a.tm.nodes_le
    have ih := ih h.2.2.2 v (by omega)
    have hw : IntKind.i64.wrap ((((a.tm.rel v).2 : Nat) : Int) + 1) = (((a.tm.rel v).2 + 1 : Nat) : Int) := by rw [IntWalk.i64_in _ (by omega)]; omega
    simp only [E.tm, nd, teK, Tm.kind, Tm.name, Tm.num, Tm.type, Tm.frm, Tm.label, Tm.kids, teR, List.length_cons, List.length_nil] at hc ⊢
    rw [Tm.rel_c (by rfl)]
    simp only [Tm.rels]
    refine fn_in ?_; refine acl_in Try.func93 rfl isfn_93 (Nat.le_of_ble_eq_true rfl) (fun R hR => ?_); rw [Try.results93] at hR; refine wg_run ?_; (simp only [Try.f93, go_sem])
    repeat' (first | (first | (simp only [go_sem, int_bne, hw]) | (((first | apply sp1 | apply sp2 | apply sp3 | apply sp4 | apply sp5 | apply sp6 | apply sp7) <;> intro hb) <;> (simp only [go_sem, hb, int_bne, hw])) | ((first | apply wm_done | apply wt_done | apply wg_run | refine fk ?_ ?_) <;> (simp only [go_sem, int_bne, hw]))) | (first | (refine wl_next (wg_run ?_); (simp only [go_sem])) | refine wd_rounds 6 ?_) | ((first | refine kdq [] ?_ (hc := hc) | refine kmq [] ?_ (hc := hc) | refine ktq [] ?_ (hc := hc)); rintro _ _ ⟨rfl, rfl⟩ <;> (simp only [go_sem])) | (first | refine cdq ?_ (hc := ih) | refine cmq ?_ (hc := ih) | refine ctq ?_ (hc := ih)); (simp only [go_sem]) | ((first | refine mxq6 [] ?_ | refine mxq5 [] ?_ | refine mxq4 [] ?_ | refine mxq3 [] ?_ | refine mxq2 [] ?_ | refine mxq1 [] ?_ | refine mxq0 [] ?_ | fail); (simp only [go_sem])) | fail)
    (refine hR _ (rat [] (hK := ⟨rfl, rfl⟩)))
  | lam x t a ih =>
    intro h v hz
    simp only [E.wf, Bool.and_eq_true, decide_eq_true_eq] at h
    have hc := l2CopyS _ (by simp [E.tm, nd, Tm.kids]) (Nat.lt_of_le_of_lt (Nat.le_add_left _ v) (Nat.lt_trans hz (by omega)))
    simp only [E.tm, nd, Tm.size, Tm.sizes] at hz
    have ih := ih h.2.2 v (by omega)
    simp only [E.tm, nd, teK, Tm.kind, Tm.name, Tm.num, Tm.type, Tm.frm, Tm.label, Tm.kids, teR, List.length_cons, List.length_nil] at hc ⊢
    rw [Tm.rel_u (by rfl)]
    simp only [Tm.rels]
    refine fn_in ?_; refine acl_in Try.func93 rfl isfn_93 (Nat.le_of_ble_eq_true rfl) (fun R hR => ?_); rw [Try.results93] at hR; refine wg_run ?_; (simp only [Try.f93, go_sem])
    repeat' (first | (first | (simp only [go_sem, int_bne]) | (((first | apply sp1 | apply sp2 | apply sp3 | apply sp4 | apply sp5 | apply sp6 | apply sp7) <;> intro hb) <;> (simp only [go_sem, hb, int_bne])) | ((first | apply wm_done | apply wt_done | apply wg_run | refine fk ?_ ?_) <;> (simp only [go_sem, int_bne]))) | (first | (refine wl_next (wg_run ?_); (simp only [go_sem])) | refine wd_rounds 6 ?_) | ((first | refine kdq [] ?_ (hc := hc) | refine kmq [] ?_ (hc := hc) | refine ktq [] ?_ (hc := hc)); rintro _ _ ⟨rfl, rfl⟩ <;> (simp only [go_sem])) | (first | refine cdq ?_ (hc := ih) | refine cmq ?_ (hc := ih) | refine ctq ?_ (hc := ih)); (simp only [go_sem]) | ((first | refine mxq6 [] ?_ | refine mxq5 [] ?_ | refine mxq4 [] ?_ | refine mxq3 [] ?_ | refine mxq2 [] ?_ | refine mxq1 [] ?_ | refine mxq0 [] ?_ | fail); (simp only [go_sem])) | fail)
    (refine hR _ (rat [] (hK := ⟨rfl, rfl⟩)))
  | fst a ih | snd a ih =>
    intro h v hz
    simp only [E.wf, Bool.and_eq_true, decide_eq_true_eq] at h
    have hc := l2CopyS _ (by simp [E.tm, nd, Tm.kids]) (Nat.lt_of_le_of_lt (Nat.le_add_left _ v) (Nat.lt_trans hz (by omega)))
    simp only [E.tm, nd, Tm.size, Tm.sizes] at hz
    have ih := ih h v (by omega)
    simp only [E.tm, nd, teK, Tm.kind, Tm.name, Tm.num, Tm.type, Tm.frm, Tm.label, Tm.kids, teR, List.length_cons, List.length_nil] at hc ⊢
    rw [Tm.rel_u (by rfl)]
    simp only [Tm.rels]
    refine fn_in ?_; refine acl_in Try.func93 rfl isfn_93 (Nat.le_of_ble_eq_true rfl) (fun R hR => ?_); rw [Try.results93] at hR; refine wg_run ?_; (simp only [Try.f93, go_sem])
    repeat' (first | (first | (simp only [go_sem, int_bne]) | (((first | apply sp1 | apply sp2 | apply sp3 | apply sp4 | apply sp5 | apply sp6 | apply sp7) <;> intro hb) <;> (simp only [go_sem, hb, int_bne])) | ((first | apply wm_done | apply wt_done | apply wg_run | refine fk ?_ ?_) <;> (simp only [go_sem, int_bne]))) | (first | (refine wl_next (wg_run ?_); (simp only [go_sem])) | refine wd_rounds 6 ?_) | ((first | refine kdq [] ?_ (hc := hc) | refine kmq [] ?_ (hc := hc) | refine ktq [] ?_ (hc := hc)); rintro _ _ ⟨rfl, rfl⟩ <;> (simp only [go_sem])) | (first | refine cdq ?_ (hc := ih) | refine cmq ?_ (hc := ih) | refine ctq ?_ (hc := ih)); (simp only [go_sem]) | ((first | refine mxq6 [] ?_ | refine mxq5 [] ?_ | refine mxq4 [] ?_ | refine mxq3 [] ?_ | refine mxq2 [] ?_ | refine mxq1 [] ?_ | refine mxq0 [] ?_ | fail); (simp only [go_sem])) | fail)
    (refine hR _ (rat [] (hK := ⟨rfl, rfl⟩)))
  | _ =>
    rename_i t a ih
    intro h v hz
    simp only [E.wf, Bool.and_eq_true, decide_eq_true_eq] at h
    have hc := l2CopyS _ (by simp [E.tm, nd, Tm.kids]) (Nat.lt_of_le_of_lt (Nat.le_add_left _ v) (Nat.lt_trans hz (by omega)))
    simp only [E.tm, nd, Tm.size, Tm.sizes] at hz
    have ih := ih h.2 v (by omega)
    simp only [E.tm, nd, teK, Tm.kind, Tm.name, Tm.num, Tm.type, Tm.frm, Tm.label, Tm.kids, teR, List.length_cons, List.length_nil] at hc ⊢
    rw [Tm.rel_u (by rfl)]
    simp only [Tm.rels]
    refine fn_in ?_; refine acl_in Try.func93 rfl isfn_93 (Nat.le_of_ble_eq_true rfl) (fun R hR => ?_); rw [Try.results93] at hR; refine wg_run ?_; (simp only [Try.f93, go_sem])
    repeat' (first | (first | (simp only [go_sem, int_bne]) | (((first | apply sp1 | apply sp2 | apply sp3 | apply sp4 | apply sp5 | apply sp6 | apply sp7) <;> intro hb) <;> (simp only [go_sem, hb, int_bne])) | ((first | apply wm_done | apply wt_done | apply wg_run | refine fk ?_ ?_) <;> (simp only [go_sem, int_bne]))) | (first | (refine wl_next (wg_run ?_); (simp only [go_sem])) | refine wd_rounds 6 ?_) | ((first | refine kdq [] ?_ (hc := hc) | refine kmq [] ?_ (hc := hc) | refine ktq [] ?_ (hc := hc)); rintro _ _ ⟨rfl, rfl⟩ <;> (simp only [go_sem])) | (first | refine cdq ?_ (hc := ih) | refine cmq ?_ (hc := ih) | refine ctq ?_ (hc := ih)); (simp only [go_sem]) | ((first | refine mxq6 [] ?_ | refine mxq5 [] ?_ | refine mxq4 [] ?_ | refine mxq3 [] ?_ | refine mxq2 [] ?_ | refine mxq1 [] ?_ | refine mxq0 [] ?_ | fail); (simp only [go_sem])) | fail)
    (refine hR _ (rat [] (hK := ⟨rfl, rfl⟩)))
theorem sRelabel (t : Tm) (ht : t.size < 100000000) : AFn Try.prog 42 [.agg (teC t)] (boolF (relB t) (teC (relT t))) := by
  have hv := sCastV t (by omega)
  have hc := l11Casts 100000000 (by omega) t ht
  have h99 := gt99 t.castsL.length
  unfold relT relB
  generalize t.castsL = L at *
  cases h : t.castV
  · rw [h] at hv
    simp only [Bool.false_and, boolF]
    simp only [tm0, noTy]
    refine fn_in ?_; refine acl_in Try.func42 rfl isfn_42 (Nat.le_of_ble_eq_true rfl) (fun R hR => ?_); rw [Try.results42] at hR; refine wg_run ?_; (simp only [Try.f42, go_sem])
    repeat' (first | (first | (((first | apply sp1 | apply sp2 | apply sp3 | apply sp4 | apply sp5 | apply sp6 | apply sp7) <;> intro hb) <;> (simp only [go_sem, hb])) | ((first | apply wm_done | apply wt_done | apply wg_run | refine fk ?_ ?_) <;> (simp only [go_sem]))) | (first | refine cdq ?_ (hc := hv) | refine cmq ?_ (hc := hv) | refine ctq ?_ (hc := hv)); (simp only [go_sem]) | fail)
    (refine hR _ ?_; refine rat [] (hK := ⟨rfl, rfl⟩))
  · rw [h] at hv
    cases h9 : decide (L.length ≤ 99)
    · rw [h9] at h99
      simp only [Bool.true_and, boolF]
      simp only [tm0, noTy]
      refine fn_in ?_; refine acl_in Try.func42 rfl isfn_42 (Nat.le_of_ble_eq_true rfl) (fun R hR => ?_); rw [Try.results42] at hR; refine wg_run ?_; (simp only [Try.f42, go_sem])
      repeat' (first | (first | (simp only [go_sem, h99]) | (((first | apply sp1 | apply sp2 | apply sp3 | apply sp4 | apply sp5 | apply sp6 | apply sp7) <;> intro hb) <;> (simp only [go_sem, hb, h99])) | ((first | apply wm_done | apply wt_done | apply wg_run | refine fk ?_ ?_) <;> (simp only [go_sem, h99]))) | (first | refine cdq ?_ (hc := hv) | refine cmq ?_ (hc := hv) | refine ctq ?_ (hc := hv)); (simp only [go_sem]) | (first | refine cdq ?_ (hc := hc) | refine cmq ?_ (hc := hc) | refine ctq ?_ (hc := hc)); (simp only [go_sem]) | fail)
      (refine hR _ ?_; refine rat [] (hK := ⟨rfl, rfl⟩))
    · rw [h9] at h99
      obtain ⟨e, rfl, ho⟩ := Tm.castV_E h
      have hm := sRel e (by simp only [E.okC, Bool.and_eq_true] at ho; exact ho.1) 0 (by omega)
      simp only [Bool.true_and, boolF]
      refine fn_in ?_; refine acl_in Try.func42 rfl isfn_42 (Nat.le_of_ble_eq_true rfl) (fun R hR => ?_); rw [Try.results42] at hR; refine wg_run ?_; (simp only [Try.f42, go_sem])
      repeat' (first | (first | (simp only [go_sem, h99]) | (((first | apply sp1 | apply sp2 | apply sp3 | apply sp4 | apply sp5 | apply sp6 | apply sp7) <;> intro hb) <;> (simp only [go_sem, hb, h99])) | ((first | apply wm_done | apply wt_done | apply wg_run | refine fk ?_ ?_) <;> (simp only [go_sem, h99]))) | (first | refine cdq ?_ (hc := hv) | refine cmq ?_ (hc := hv) | refine ctq ?_ (hc := hv)); (simp only [go_sem]) | (first | refine cdq ?_ (hc := hc) | refine cmq ?_ (hc := hc) | refine ctq ?_ (hc := hc)); (simp only [go_sem]) | (first | refine cdq ?_ (hc := hm) | refine cmq ?_ (hc := hm) | refine ctq ?_ (hc := hm)); (simp only [go_sem]) | fail)
      (refine hR _ ?_; refine rat [] (hK := ⟨rfl, rfl⟩))
end Go.Proofs.Ytchcbfbnffhifaa
/- Trees whose lengths fit into the machine's numbers; their weights. -/
namespace Go.Proofs.Grad
mutual
def Ty.fits : Ty → Prop | .mk _ l => l.length ≤ 9223372036854775807 ∧ Ty.fitss l
def Ty.fitss : List Ty → Prop | [] => True | t :: l => t.fits ∧ Ty.fitss l
end
mutual
def Tm.fits : Tm → Prop | .mk _ n _ t f _ l => n.size ≤ 9223372036854775807 ∧ t.fits ∧ f.fits ∧ l.length ≤ 9223372036854775807 ∧ Tm.fitss l
def Tm.fitss : List Tm → Prop | [] => True | t :: l => t.fits ∧ Tm.fitss l
end
mutual
def Co.fits : Co → Prop | .mk _ _ _ l => l.length ≤ 9223372036854775807 ∧ Co.fitss l
def Co.fitss : List Co → Prop | [] => True | t :: l => t.fits ∧ Co.fitss l
end
theorem Ty.fitss_mem {t : Ty} : ∀ {l : List Ty}, Ty.fitss l → t ∈ l → t.fits
  | x :: l, h, hm => by
    rcases List.mem_cons.1 hm with rfl | hm
    · exact h.1
    · exact Ty.fitss_mem h.2 hm
theorem Tm.fitss_mem {t : Tm} : ∀ {l : List Tm}, Tm.fitss l → t ∈ l → t.fits
  | x :: l, h, hm => by
    rcases List.mem_cons.1 hm with rfl | hm
    · exact h.1
    · exact Tm.fitss_mem h.2 hm
theorem Co.fitss_mem {t : Co} : ∀ {l : List Co}, Co.fitss l → t ∈ l → t.fits
  | x :: l, h, hm => by
    rcases List.mem_cons.1 hm with rfl | hm
    · exact h.1
    · exact Co.fitss_mem h.2 hm
theorem Ty.fitss_of : ∀ {l : List Ty}, (∀ i (h : i < l.length), l[i].fits) → Ty.fitss l
  | [], _ => trivial
  | x :: l, h => ⟨h 0 (by simp), Ty.fitss_of fun i hi => h (i + 1) (by simpa using hi)⟩
theorem Tm.fitss_of : ∀ {l : List Tm}, (∀ i (h : i < l.length), l[i].fits) → Tm.fitss l
  | [], _ => trivial
  | x :: l, h => ⟨h 0 (by simp), Tm.fitss_of fun i hi => h (i + 1) (by simpa using hi)⟩
theorem Co.fitss_of : ∀ {l : List Co}, (∀ i (h : i < l.length), l[i].fits) → Co.fitss l
  | [], _ => trivial
  | x :: l, h => ⟨h 0 (by simp), Co.fitss_of fun i hi => h (i + 1) (by simpa using hi)⟩
mutual
def Ty.wt : Ty → Nat | .mk _ l => Ty.wts l
def Ty.wts : List Ty → Nat | [] => 0 | t :: l => 1 + t.wt + Ty.wts l
end
mutual
def Tm.wt : Tm → Nat | .mk _ n _ t f _ l => n.size + (t.wt + (f.wt + Tm.wts l))
def Tm.wts : List Tm → Nat | [] => 0 | t :: l => 1 + t.wt + Tm.wts l
end
mutual
def Co.wt : Co → Nat | .mk _ _ _ l => Co.wts l
def Co.wts : List Co → Nat | [] => 0 | t :: l => 1 + t.wt + Co.wts l
end
mutual
theorem Ty.size_wt : ∀ t : Ty, t.size = 1 + t.wt
  | .mk _ l => by simp only [Ty.size, Ty.wt, Ty.sizes_wts l]
theorem Ty.sizes_wts : ∀ l : List Ty, Ty.sizes l = Ty.wts l
  | [] => rfl
  | t :: l => by simp only [Ty.sizes, Ty.wts, Ty.size_wt t, Ty.sizes_wts l]
end
mutual
theorem Co.size_wt : ∀ t : Co, t.size = 1 + t.wt
  | .mk _ _ _ l => by simp only [Co.size, Co.wt, Co.sizes_wts l]
theorem Co.sizes_wts : ∀ l : List Co, Co.sizes l = Co.wts l
  | [] => rfl
  | t :: l => by simp only [Co.sizes, Co.wts, Co.size_wt t, Co.sizes_wts l]
end
mutual
theorem Tm.size_wt : ∀ t : Tm, t.size ≤ 3 + 3 * t.wt
  | .mk _ _ _ t f _ l => by
    have := Tm.sizes_wts l
    have := Ty.size_wt t
    have := Ty.size_wt f
    simp only [Tm.size, Tm.wt]; omega
theorem Tm.sizes_wts : ∀ l : List Tm, Tm.sizes l ≤ 3 * Tm.wts l
  | [] => by simp [Tm.sizes, Tm.wts]
  | t :: l => by have := Tm.size_wt t; have := Tm.sizes_wts l; simp only [Tm.sizes, Tm.wts]; omega
end
end Go.Proofs.Grad
