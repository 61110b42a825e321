/- Texts of the proof, one behind another. -/
import Derived.Test.YtfgjiamolknicaaKX9
import Derived.Test.YtfgjiamolknicaaKX11
import Derived.Test.YtfgjiamolknicaaKX12
set_option linter.unusedSimpArgs false
set_option linter.unusedVariables false
/- Terms: safety for a label, on shadows. -/
namespace Go.Proofs.Grad
/-- is a cast unsafe for a label -/
noncomputable def unsB (l : Int) (c : Tm) : Bool := (c.label == l && !onT T.pos c.frm c.type) || (c.label == -l && !onT T.neg c.frm c.type)
theorem E.castsL_ok (e : E) (h : e.wf = true) : ∀ c ∈ e.tm.castsL, ∃ s t l a, c = (E.cast s t l a).tm ∧ s.depth ≤ 4 ∧ t.depth ≤ 4 ∧ s.cons t = true ∧ lab l = true := by
  induction e with
  | var _ | num _ | tru | fls => intro c hc; simp [E.tm, nd, Tm.castsL, Tm.castsLs, ownCast, Tm.kind] at hc
  | lam _ _ a ih =>
    simp only [E.wf, Bool.and_eq_true] at h
    intro c hc; simp [E.tm, nd, Tm.castsL, Tm.castsLs, ownCast, Tm.kind] at hc
    exact ih h.2.2 c hc
  | fst a ih | snd a ih =>
    simp only [E.wf, Bool.and_eq_true] at h
    intro c hc; simp [E.tm, nd, Tm.castsL, Tm.castsLs, ownCast, Tm.kind] at hc
    exact ih h c hc
  | app a b iha ihb | add a b iha ihb | less a b iha ihb | pair a b iha ihb =>
    simp only [E.wf, Bool.and_eq_true] at h
    intro c hc; simp [E.tm, nd, Tm.castsL, Tm.castsLs, ownCast, Tm.kind] at hc
    rcases hc with hc | hc
    · exact iha h.1 c hc
    · exact ihb h.2 c hc
  | ite a b c iha ihb ihc =>
    simp only [E.wf, Bool.and_eq_true] at h
    intro x hc; simp [E.tm, nd, Tm.castsL, Tm.castsLs, ownCast, Tm.kind] at hc
    rcases hc with hc | hc | hc
    · exact iha h.1 x hc
    · exact ihb h.2.1 x hc
    · exact ihc h.2.2 x hc
  | cast s t l a ih =>
    simp only [E.wf, Bool.and_eq_true, decide_eq_true_eq] at h
    intro c hc; simp [E.tm, Tm.castsL, Tm.castsLs, ownCast, Tm.kind] at hc
    rcases hc with rfl | hc
    · exact ⟨s, t, l, a, rfl, h.1.1, h.1.2, h.2.1, h.2.2.1⟩
    · exact ih h.2.2.2 c hc
  | _ =>
    rename_i ty a ih
    simp only [E.wf, Bool.and_eq_true] at h
    intro c hc; simp [E.tm, nd, Tm.castsL, Tm.castsLs, ownCast, Tm.kind] at hc
    exact ih h.2 c hc
theorem unsB_cast {s t : T} (hs : s.depth ≤ 4) (ht : t.depth ≤ 4) (l k : Int) (a : E) : unsB k (E.cast s t l a).tm = ((l == k && !s.pos t) || (l == -k && !s.neg t)) := by
  simp only [unsB, E.tm, Tm.label, Tm.frm, Tm.type, onT_ty _ hs ht]
theorem lab_bd {l : Int} (h : lab l = true) : -99 ≤ l ∧ l ≤ 99 := by simp [lab] at h; omega
/-- safe for a label -/
noncomputable def Tm.safeB (t : Tm) (l : Int) : Bool := !t.castsL.any (unsB l)
end Go.Proofs.Grad
namespace Go.Proofs.Ytfgjiamolknicaa
open Go.RowKit Go.Proofs.Sh Go.Proofs.Grad
set_option maxRecDepth 100000
set_option maxHeartbeats 8000000
theorem l8PN (n : Nat) : (∀ a b : T, subM a b < n → AFn Try.prog 160 [.agg (tyC a.ty), .agg (tyC b.ty)] (.one (.sc (.bool (a.pos b))))) ∧
    (∀ a b : T, subM a b < n → AFn Try.prog 161 [.agg (tyC a.ty), .agg (tyC b.ty)] (.one (.sc (.bool (a.neg b))))) := by
  induction n with
  | zero => exact ⟨fun a b h => by omega, fun a b h => by omega⟩
  | succ n ih =>
    obtain ⟨ihp, ihn⟩ := ih
    constructor
    · intro a b h
      rcases a with _ | _ | _ | ⟨a1, a2⟩ | ⟨a1, a2⟩ <;> rcases b with _ | _ | _ | ⟨b1, b2⟩ | ⟨b1, b2⟩
      all_goals
        ((try have p1 := T.size_pos a1); (try have p2 := T.size_pos a2); (try have p3 := T.size_pos b1); (try have p4 := T.size_pos b2))
        simp only [subM, T.size] at h
        refine fn_in ?_; refine acl_in Try.func160 rfl isfn_160 (Nat.le_of_ble_eq_true rfl) (fun R hR => ?_); rw [Try.results160] at hR; refine wg_run ?_; (simp only [Try.f160, go_sem])
        repeat' (first | (first | (simp only [go_sem, int_bne]) | (((first | apply sp1 | apply sp2 | apply sp3 | apply sp4 | apply sp5 | apply sp6 | apply sp7) <;> intro hb) <;> (simp only [go_sem, hb, int_bne])) | ((first | apply wm_done | apply wt_done | apply wg_run | refine fk ?_ ?_) <;> (simp only [go_sem, int_bne]))) | ((first | refine mxq6 [] ?_ | refine mxq5 [] ?_ | refine mxq4 [] ?_ | refine mxq3 [] ?_ | refine mxq2 [] ?_ | refine mxq1 [] ?_ | refine mxq0 [] ?_ | fail); (simp only [go_sem, int_bne])) | (first | refine cdq ?_ (hc := ihp _ _ (by simp only [subM, T.size, T.ground]; (try split) <;> (try simp only [T.size]) <;> omega)) | refine cmq ?_ (hc := ihp _ _ (by simp only [subM, T.size, T.ground]; (try split) <;> (try simp only [T.size]) <;> omega)) | refine ctq ?_ (hc := ihp _ _ (by simp only [subM, T.size, T.ground]; (try split) <;> (try simp only [T.size]) <;> omega))); (simp only [go_sem]) | (first | refine cdq ?_ (hc := ihn _ _ (by simp only [subM, T.size, T.ground]; (try split) <;> (try simp only [T.size]) <;> omega)) | refine cmq ?_ (hc := ihn _ _ (by simp only [subM, T.size, T.ground]; (try split) <;> (try simp only [T.size]) <;> omega)) | refine ctq ?_ (hc := ihn _ _ (by simp only [subM, T.size, T.ground]; (try split) <;> (try simp only [T.size]) <;> omega))); (simp only [go_sem]))
      all_goals (refine hR _ (rat [] (hK := ⟨?_, rfl⟩)))
      all_goals clear hR ihp ihn
      all_goals simp_all [T.pos]
    · intro a b h
      rcases a with _ | _ | _ | ⟨a1, a2⟩ | ⟨a1, a2⟩ <;> rcases b with _ | _ | _ | ⟨b1, b2⟩ | ⟨b1, b2⟩
      all_goals
        ((try have p1 := T.size_pos a1); (try have p2 := T.size_pos a2); (try have p3 := T.size_pos b1); (try have p4 := T.size_pos b2))
        simp only [subM, T.size] at h
        refine fn_in ?_; refine acl_in Try.func161 rfl isfn_161 (Nat.le_of_ble_eq_true rfl) (fun R hR => ?_); rw [Try.results161] at hR; refine wg_run ?_; (simp only [Try.f161, go_sem])
        repeat' (first | (first | (simp only [go_sem, int_bne]) | (((first | apply sp1 | apply sp2 | apply sp3 | apply sp4 | apply sp5 | apply sp6 | apply sp7) <;> intro hb) <;> (simp only [go_sem, hb, int_bne])) | ((first | apply wm_done | apply wt_done | apply wg_run | refine fk ?_ ?_) <;> (simp only [go_sem, int_bne]))) | ((first | refine mxq6 [] ?_ | refine mxq5 [] ?_ | refine mxq4 [] ?_ | refine mxq3 [] ?_ | refine mxq2 [] ?_ | refine mxq1 [] ?_ | refine mxq0 [] ?_ | fail); (simp only [go_sem, int_bne])) | (first | refine cdq ?_ (hc := l1Ground T.int) | refine cmq ?_ (hc := l1Ground T.int) | refine ctq ?_ (hc := l1Ground T.int)); (simp only [go_sem]) | (first | refine cdq ?_ (hc := l1Ground T.bool) | refine cmq ?_ (hc := l1Ground T.bool) | refine ctq ?_ (hc := l1Ground T.bool)); (simp only [go_sem]) | (first | refine cdq ?_ (hc := l1Ground (T.fn a1 a2)) | refine cmq ?_ (hc := l1Ground (T.fn a1 a2)) | refine ctq ?_ (hc := l1Ground (T.fn a1 a2))); (simp only [go_sem]) | (first | refine cdq ?_ (hc := l1Ground (T.pr a1 a2)) | refine cmq ?_ (hc := l1Ground (T.pr a1 a2)) | refine ctq ?_ (hc := l1Ground (T.pr a1 a2))); (simp only [go_sem]) | (first | refine cdq ?_ (hc := ihn _ _ (by simp only [subM, T.size, T.ground]; (try split) <;> (try simp only [T.size]) <;> omega)) | refine cmq ?_ (hc := ihn _ _ (by simp only [subM, T.size, T.ground]; (try split) <;> (try simp only [T.size]) <;> omega)) | refine ctq ?_ (hc := ihn _ _ (by simp only [subM, T.size, T.ground]; (try split) <;> (try simp only [T.size]) <;> omega))); (simp only [go_sem]) | (first | refine cdq ?_ (hc := ihp _ _ (by simp only [subM, T.size, T.ground]; (try split) <;> (try simp only [T.size]) <;> omega)) | refine cmq ?_ (hc := ihp _ _ (by simp only [subM, T.size, T.ground]; (try split) <;> (try simp only [T.size]) <;> omega)) | refine ctq ?_ (hc := ihp _ _ (by simp only [subM, T.size, T.ground]; (try split) <;> (try simp only [T.size]) <;> omega))); (simp only [go_sem]))
      all_goals (refine hR _ (rat [] (hK := ⟨?_, rfl⟩)))
      all_goals clear hR ihp ihn
      all_goals simp_all [T.neg, T.ground]

theorem iSafe1 (l : Int) (hl : lab l = true) (c : Tm) (s t : T) (k : Int) (a : E) (hc : c = (E.cast s t k a).tm) (hs : s.depth ≤ 4) (ht : t.depth ≤ 4) : ACl Try.prog 163 [.agg (teC c), .one (.ptr 1 0 0 0)] [⟨1, 3, .mut, [[.sc (.int .i64 l)]]⟩] (fun r H' => r = .one (.sc (.bool (unsB l c))) ∧ H' = [⟨1, 3, .mut, [[.sc (.int .i64 l)]]⟩]) := by
  subst hc
  rw [unsB_cast hs ht]
  have hp := (iPN _).1 s t (Nat.lt_succ_self _)
  have hn := (iPN _).2 s t (Nat.lt_succ_self _)
  have hw : IntKind.i64.wrap (0 - l) = -l := by have := lab_bd hl; rw [IntWalk.i64_in _ (by omega)]; omega
  simp only [E.tm]
  refine acl_in Try.func163 rfl isfn_163 (Nat.le_of_ble_eq_true rfl) (fun R hR => ?_); rw [Try.results163] at hR; refine wg_run ?_; (simp only [Try.f163, go_sem, hw])
  repeat' (first | (first | (simp only [go_sem, hw]) | (((first | apply sp1 | apply sp2 | apply sp3 | apply sp4 | apply sp5 | apply sp6 | apply sp7) <;> intro hb) <;> (simp only [go_sem, hb, hw])) | ((first | apply wm_done | apply wt_done | apply wg_run | refine fk ?_ ?_) <;> (simp only [go_sem, hw]))) | (first | refine cdq ?_ (hc := hp) | refine cmq ?_ (hc := hp) | refine ctq ?_ (hc := hp)); (simp only [go_sem]) | (first | refine cdq ?_ (hc := hn) | refine cmq ?_ (hc := hn) | refine ctq ?_ (hc := hn)); (simp only [go_sem]))
  all_goals (refine hR _ (rat [] (hK := ⟨?_, ?_⟩)))
  all_goals (first | rfl | (clear hR hp hn hw; grind))
theorem iSafe (e : E) (l : Int) (he : e.wf = true) (hl : lab l = true) (h : e.tm.size < 274877906944) : AFn Try.prog 120 [.agg (teC e.tm), .one (.sc (.int .i64 l))] (.one (.sc (.bool (e.tm.safeB l)))) := by
  have hca := iCasts _ (Nat.le_refl _) e.tm h
  have hlen := e.tm.castsL_len
  have hnl := e.tm.nodes_le
  have hcc := teContainsFunc1 163 l (unsB l) e.tm.castsL (by omega) (fun k hk => by
    obtain ⟨s, t, j, a, h1, h2, h3, _, _⟩ := e.castsL_ok he _ (List.getElem_mem hk)
    rw [← teKid_eq hk] at h1
    exact iSafe1 l hl _ s t j a h1 h2 h3)
  unfold Tm.safeB
  refine fn_in ?_; refine acl_in Try.func120 rfl isfn_120 (Nat.le_of_ble_eq_true rfl) (fun R hR => ?_); rw [Try.results120] at hR; refine wg_run ?_; (simp only [Try.f120, go_sem])
  repeat' (first | (first | (((first | apply sp1 | apply sp2 | apply sp3 | apply sp4 | apply sp5 | apply sp6 | apply sp7) <;> intro hb) <;> (simp only [go_sem, hb])) | ((first | apply wm_done | apply wt_done | apply wg_run | refine fk ?_ ?_) <;> (simp only [go_sem]))) | (first | refine cdq ?_ (hc := hca) | refine cmq ?_ (hc := hca) | refine ctq ?_ (hc := hca)); (simp only [go_sem]) | (first | refine kdq [1] ?_ (hc := hcc) | refine kmq [1] ?_ (hc := hcc) | refine ktq [1] ?_ (hc := hcc)); rintro _ _ ⟨rfl, rfl⟩; (simp only [go_sem]))
  (refine hR _ (rat [] (hK := ⟨?_, rfl⟩)))
  rfl
theorem sSafe (l : Int) (hl : lab l = true) (e : E) (h : e.wf = true) : AFn Try.prog 117 [.agg (teC e.tm), .one (.sc (.int .i64 l))] (.one (.sc (.bool (e.tm.safeB l)))) := by
  have hw : IntKind.i64.wrap (0 - l) = -l := by have := lab_bd hl; rw [IntWalk.i64_in _ (by omega)]; omega
  induction e with
  | var _ | num _ | tru | fls =>
    simp only [E.tm, nd]
    refine fn_in ?_; refine acl_in Try.func117 rfl isfn_117 (Nat.le_of_ble_eq_true rfl) (fun R hR => ?_); rw [Try.results117] at hR; refine wg_run ?_; (simp only [Try.f117, go_sem])
    repeat' (first | (first | (((first | apply sp1 | apply sp2 | apply sp3 | apply sp4 | apply sp5 | apply sp6 | apply sp7) <;> intro hb) <;> (simp only [go_sem, hb])) | ((first | apply wm_done | apply wt_done | apply wg_run | refine fk ?_ ?_) <;> (simp only [go_sem]))) | (first | (refine wl_next (wg_run ?_); (simp only [go_sem])) | refine wd_rounds 6 ?_))
    (refine hR _ (rat [] (hK := ⟨?_, rfl⟩)))
    rfl
  | lam _ _ a ih =>
    simp only [E.wf, Bool.and_eq_true] at h
    have ih := ih h.2.2
    have e1 : (E.lam ‹_› ‹_› a).tm.safeB l = a.tm.safeB l := by simp [Tm.safeB, E.tm, Tm.castsL, Tm.castsLs, ownCast, Tm.kind]
    rw [e1]
    simp only [E.tm]
    refine fn_in ?_; refine acl_in Try.func117 rfl isfn_117 (Nat.le_of_ble_eq_true rfl) (fun R hR => ?_); rw [Try.results117] at hR; refine wg_run ?_; (simp only [Try.f117, go_sem])
    repeat' (first | (first | (((first | apply sp1 | apply sp2 | apply sp3 | apply sp4 | apply sp5 | apply sp6 | apply sp7) <;> intro hb) <;> (simp only [go_sem, hb])) | ((first | apply wm_done | apply wt_done | apply wg_run | refine fk ?_ ?_) <;> (simp only [go_sem]))) | (first | (refine wl_next (wg_run ?_); (simp only [go_sem])) | refine wd_rounds 6 ?_) | (first | refine cdq ?_ (hc := ih) | refine cmq ?_ (hc := ih) | refine ctq ?_ (hc := ih)); (simp only [go_sem]))
    all_goals (refine hR _ (rat [] (hK := ⟨?_, rfl⟩)))
    all_goals simp_all
  | fst a ih | snd a ih =>
    simp only [E.wf] at h
    have ih := ih h
    have e1 : a.tm.safeB l = (E.fst a).tm.safeB l := by simp [Tm.safeB, E.tm, nd, Tm.castsL, Tm.castsLs, ownCast, Tm.kind]
    have e2 : a.tm.safeB l = (E.snd a).tm.safeB l := by simp [Tm.safeB, E.tm, nd, Tm.castsL, Tm.castsLs, ownCast, Tm.kind]
    first | rw [← e1] | rw [← e2]
    simp only [E.tm, nd]
    refine fn_in ?_; refine acl_in Try.func117 rfl isfn_117 (Nat.le_of_ble_eq_true rfl) (fun R hR => ?_); rw [Try.results117] at hR; refine wg_run ?_; (simp only [Try.f117, go_sem])
    repeat' (first | (first | (((first | apply sp1 | apply sp2 | apply sp3 | apply sp4 | apply sp5 | apply sp6 | apply sp7) <;> intro hb) <;> (simp only [go_sem, hb])) | ((first | apply wm_done | apply wt_done | apply wg_run | refine fk ?_ ?_) <;> (simp only [go_sem]))) | (first | (refine wl_next (wg_run ?_); (simp only [go_sem])) | refine wd_rounds 6 ?_) | (first | refine cdq ?_ (hc := ih) | refine cmq ?_ (hc := ih) | refine ctq ?_ (hc := ih)); (simp only [go_sem]))
    all_goals (refine hR _ (rat [] (hK := ⟨?_, rfl⟩)))
    all_goals simp_all
  | app a b iha ihb | add a b iha ihb | less a b iha ihb | pair a b iha ihb =>
    simp only [E.wf, Bool.and_eq_true] at h
    have iha := iha h.1
    have ihb := ihb h.2
    have e1 : ∀ k, (nd k [a.tm, b.tm]).kind = k := fun _ => rfl
    have e2 : ∀ k, (k == (14 : Int)) = false → (nd k [a.tm, b.tm]).safeB l = (a.tm.safeB l && b.tm.safeB l) := by
      intro k hk
      simp [Tm.safeB, nd, Tm.castsL, Tm.castsLs, ownCast, Tm.kind, hk]
    simp only [E.tm]
    rw [e2 _ rfl]
    simp only [nd]
    refine fn_in ?_; refine acl_in Try.func117 rfl isfn_117 (Nat.le_of_ble_eq_true rfl) (fun R hR => ?_); rw [Try.results117] at hR; refine wg_run ?_; (simp only [Try.f117, go_sem])
    repeat' (first | (first | (((first | apply sp1 | apply sp2 | apply sp3 | apply sp4 | apply sp5 | apply sp6 | apply sp7) <;> intro hb) <;> (simp only [go_sem, hb])) | ((first | apply wm_done | apply wt_done | apply wg_run | refine fk ?_ ?_) <;> (simp only [go_sem]))) | (first | (refine wl_next (wg_run ?_); (simp only [go_sem])) | refine wd_rounds 6 ?_) | (first | refine cdq ?_ (hc := iha) | refine cmq ?_ (hc := iha) | refine ctq ?_ (hc := iha)); (simp only [go_sem]) | (first | refine cdq ?_ (hc := ihb) | refine cmq ?_ (hc := ihb) | refine ctq ?_ (hc := ihb)); (simp only [go_sem]))
    all_goals (refine hR _ (rat [] (hK := ⟨?_, rfl⟩)))
    all_goals simp_all
  | ite a b c iha ihb ihc =>
    simp only [E.wf, Bool.and_eq_true] at h
    have iha := iha h.1
    have ihb := ihb h.2.1
    have ihc := ihc h.2.2
    have e2 : (E.ite a b c).tm.safeB l = (a.tm.safeB l && (b.tm.safeB l && c.tm.safeB l)) := by
      simp [Tm.safeB, E.tm, nd, Tm.castsL, Tm.castsLs, ownCast, Tm.kind]
    rw [e2]
    simp only [E.tm, nd]
    refine fn_in ?_; refine acl_in Try.func117 rfl isfn_117 (Nat.le_of_ble_eq_true rfl) (fun R hR => ?_); rw [Try.results117] at hR; refine wg_run ?_; (simp only [Try.f117, go_sem])
    repeat' (first | (first | (((first | apply sp1 | apply sp2 | apply sp3 | apply sp4 | apply sp5 | apply sp6 | apply sp7) <;> intro hb) <;> (simp only [go_sem, hb])) | ((first | apply wm_done | apply wt_done | apply wg_run | refine fk ?_ ?_) <;> (simp only [go_sem]))) | (first | (refine wl_next (wg_run ?_); (simp only [go_sem])) | refine wd_rounds 6 ?_) | (first | refine cdq ?_ (hc := iha) | refine cmq ?_ (hc := iha) | refine ctq ?_ (hc := iha)); (simp only [go_sem]) | (first | refine cdq ?_ (hc := ihb) | refine cmq ?_ (hc := ihb) | refine ctq ?_ (hc := ihb)); (simp only [go_sem]) | (first | refine cdq ?_ (hc := ihc) | refine cmq ?_ (hc := ihc) | refine ctq ?_ (hc := ihc)); (simp only [go_sem]))
    all_goals (refine hR _ (rat [] (hK := ⟨?_, rfl⟩)))
    all_goals simp_all
  | cast s t k a ih =>
    simp only [E.wf, Bool.and_eq_true, decide_eq_true_eq] at h
    have ih := ih h.2.2.2
    have hp := (l8PN _).1 s t (Nat.lt_succ_self _)
    have hn := (l8PN _).2 s t (Nat.lt_succ_self _)
    have e2 : (E.cast s t k a).tm.safeB l = (!((k == l && !s.pos t) || (k == -l && !s.neg t)) && a.tm.safeB l) := by
      rw [← unsB_cast h.1.1 h.1.2 k l a]
      simp [Tm.safeB, E.tm, Tm.castsL, Tm.castsLs, ownCast, Tm.kind]
    rw [e2]
    simp only [E.tm]
    refine fn_in ?_; refine acl_in Try.func117 rfl isfn_117 (Nat.le_of_ble_eq_true rfl) (fun R hR => ?_); rw [Try.results117] at hR; refine wg_run ?_; (simp only [Try.f117, go_sem, hw])
    repeat' (first | (first | (simp only [go_sem, hw]) | (((first | apply sp1 | apply sp2 | apply sp3 | apply sp4 | apply sp5 | apply sp6 | apply sp7) <;> intro hb) <;> (simp only [go_sem, hb, hw])) | ((first | apply wm_done | apply wt_done | apply wg_run | refine fk ?_ ?_) <;> (simp only [go_sem, hw]))) | (first | (refine wl_next (wg_run ?_); (simp only [go_sem])) | refine wd_rounds 6 ?_) | (first | refine cdq ?_ (hc := hp) | refine cmq ?_ (hc := hp) | refine ctq ?_ (hc := hp)); (simp only [go_sem]) | (first | refine cdq ?_ (hc := hn) | refine cmq ?_ (hc := hn) | refine ctq ?_ (hc := hn)); (simp only [go_sem]) | (first | refine cdq ?_ (hc := ih) | refine cmq ?_ (hc := ih) | refine ctq ?_ (hc := ih)); (simp only [go_sem]))
    all_goals (refine hR _ (rat [] (hK := ⟨?_, rfl⟩)))
    all_goals (clear hR hp hn ih hw; grind)
  | _ =>
    rename_i ty a ih
    simp only [E.wf, Bool.and_eq_true] at h
    have ih := ih h.2
    have e1 : (E.asc ty a).tm.safeB l = a.tm.safeB l := by simp [Tm.safeB, E.tm, Tm.castsL, Tm.castsLs, ownCast, Tm.kind]
    rw [e1]
    simp only [E.tm]
    refine fn_in ?_; refine acl_in Try.func117 rfl isfn_117 (Nat.le_of_ble_eq_true rfl) (fun R hR => ?_); rw [Try.results117] at hR; refine wg_run ?_; (simp only [Try.f117, go_sem])
    repeat' (first | (first | (((first | apply sp1 | apply sp2 | apply sp3 | apply sp4 | apply sp5 | apply sp6 | apply sp7) <;> intro hb) <;> (simp only [go_sem, hb])) | ((first | apply wm_done | apply wt_done | apply wg_run | refine fk ?_ ?_) <;> (simp only [go_sem]))) | (first | (refine wl_next (wg_run ?_); (simp only [go_sem])) | refine wd_rounds 6 ?_) | (first | refine cdq ?_ (hc := ih) | refine cmq ?_ (hc := ih) | refine ctq ?_ (hc := ih)); (simp only [go_sem]))
    all_goals (refine hR _ (rat [] (hK := ⟨?_, rfl⟩)))
    all_goals simp_all
end Go.Proofs.Ytfgjiamolknicaa
/- The labels of a term's casts. No program, no world. -/
namespace Go.Proofs.Grad
def E.labs : E → List Int
  | .var _ | .num _ | .tru | .fls => []
  | .lam _ _ a | .fst a | .snd a | .asc _ a => a.labs
  | .app a b | .add a b | .less a b | .pair a b => a.labs ++ b.labs
  | .ite a b c => a.labs ++ (b.labs ++ c.labs)
  | .cast _ _ l a => l :: a.labs
end Go.Proofs.Grad
/- The labels of terms' casts, in the program and in the reference. On shadows. -/
namespace Go.Proofs.Grad
/-- the labels of a term's casts -/
def Tm.labs (t : Tm) : List Int := t.castsL.map Tm.label
def labsOf (l : List Tm) : List Int := l.map Tm.label
theorem E.labs_tm (e : E) : e.tm.labs = e.labs := by
  unfold Tm.labs
  induction e <;> simp_all [E.tm, nd, Tm.castsL, Tm.castsLs, ownCast, Tm.kind, Tm.label, E.labs]
theorem lab_neg2 {l : Int} (h : lab l = true) : lab (-l) = true := by
  simp [lab] at *; omega
theorem E.labs_nodes (e : E) (h : e.okC = true) : e.labs.length ≤ 200 := by
  rw [← E.labs_tm]
  have := e.tm.castsL_len
  simp only [E.okC, Bool.and_eq_true, decide_eq_true_eq] at h
  rw [E.tm_nodes] at this
  simp only [Tm.labs, List.length_map]; omega
theorem E.labs_ok (e : E) (h : e.wf = true) : ∀ l ∈ e.labs, lab l = true := by
  induction e <;> simp_all [E.labs, E.wf]
  all_goals (try grind)
/-- the labels and their opposites that are not safe -/
def one1 (p : Int → Bool) (l : Int) : List Int := match p l with | true => [] | false => [l]
def unsL (p : Int → Bool) : List Int → List Int
  | [] => []
  | l :: m => one1 p l ++ (one1 p (-l) ++ unsL p m)
theorem unsL_append (p : Int → Bool) (l m : List Int) : unsL p (l ++ m) = unsL p l ++ unsL p m := by
  induction l with
  | nil => rfl
  | cons x l ih => simp only [List.cons_append, unsL, ih, List.append_assoc]
theorem mem_unsL (p : Int → Bool) (x : Int) : ∀ l : List Int, x ∈ unsL p l ↔ p x = false ∧ (x ∈ l ∨ -x ∈ l)
  | [] => by simp [unsL]
  | y :: l => by
    have hy : ∀ z, x ∈ one1 p z ↔ x = z ∧ p x = false := by
      intro z; unfold one1
      cases h : p z
      · simp only [List.mem_singleton]; exact ⟨fun e => ⟨e, e ▸ h⟩, fun h => h.1⟩
      · simp only [List.not_mem_nil, false_iff, not_and]; intro e; subst e; rw [h]; exact Bool.noConfusion
    simp only [unsL, List.mem_append, hy, mem_unsL p x l, List.mem_cons]
    have e : x = -y ↔ -x = y := by omega
    rw [e]
    grind
theorem unsL_len (p : Int → Bool) (l : List Int) : (unsL p l).length ≤ 2 * l.length := by
  have h1 : ∀ z, (one1 p z).length ≤ 1 := fun z => by unfold one1; split <;> simp
  induction l with
  | nil => simp [unsL]
  | cons x l ih => have := h1 x; have := h1 (-x); simp only [unsL, List.length_append, List.length_cons]; omega
theorem unsL_snoc (p : Int → Bool) {l : List Int} {k : Nat} (h : k < l.length) : unsL p (l.take (k + 1)) = unsL p (l.take k) ++ (one1 p (Sh.num l k) ++ one1 p (-Sh.num l k)) := by
  rw [Sh.numtake h, unsL_append]; simp [unsL]
theorem insL_one1 (p : Int → Bool) (out : List Int) (n : Int) : insL out (one1 p n) = match p n with | true => out | false => insF out n := by unfold one1; split <;> rfl
theorem insL_unsL (p : Int → Bool) (l : List Int) : insL [] (unsL p (setL l)) = setL (unsL p l) := by
  rw [insL_setL]
  obtain ⟨h1, h2, _⟩ := setL_spec (unsL p (setL l))
  obtain ⟨h3, h4, _⟩ := setL_spec (unsL p l)
  have h5 := (setL_spec l).2.1
  exact up_ext h1 h3 fun x => by rw [h2, h4, mem_unsL, mem_unsL, h5, h5]
theorem Sh.num_labs {l : List Tm} {k : Nat} (h : k < l.length) : Sh.num (labsOf l) k = (Sh.teKid l k).label := by
  rw [Sh.num_eq (by simpa [labsOf] using h), Sh.teKid_eq h]; simp [labsOf]
theorem num_mem {l : List Int} {k : Nat} (h : k < l.length) : Sh.num l k ∈ l := by rw [Sh.num_eq h]; exact List.getElem_mem h
noncomputable def Tm.labsV (t : Tm) : List Int := match t.castV with | true => setL t.labs | false => []
noncomputable def Tm.unsV (t : Tm) : List Int := match t.castV with | true => setL (unsL t.safeB t.labs) | false => []
theorem E.wf_ok {e : E} (h : e.okC = true) : e.wf = true := by simp only [E.okC, Bool.and_eq_true] at h; exact h.1
end Go.Proofs.Grad
namespace Go.Proofs.Ytfgjiamolknicaa
open Go.RowKit Go.Proofs.Sh Go.Proofs.Grad
set_option maxRecDepth 100000
set_option maxHeartbeats 8000000
theorem l4LabelsE (e : E) : ∀ out : List Int, e.wf = true → out.length + e.labs.length < 900000 → AFn Try.prog 159 [.one (.sl (intR out)), .agg (teC e.tm)] (.one (.sl (intR (insL out e.labs)))) := by
  induction e with
  | var _ | num _ | tru | fls =>
    intro out _ _
    simp only [E.tm, nd]
    refine fn_in ?_; refine acl_in Try.func159 rfl isfn_159 (Nat.le_of_ble_eq_true rfl) (fun R hR => ?_); rw [Try.results159] at hR; refine wg_run ?_; (simp only [Try.f159, go_sem])
    repeat' (first | (first | (((first | apply sp1 | apply sp2 | apply sp3 | apply sp4 | apply sp5 | apply sp6 | apply sp7) <;> intro hb) <;> (simp only [go_sem, hb])) | ((first | apply wm_done | apply wt_done | apply wg_run | refine fk ?_ ?_) <;> (simp only [go_sem]))) | (first | (refine wl_next (wg_run ?_); (simp only [go_sem])) | refine wd_rounds 6 ?_) | fail)
    (refine hR _ (rat [] (hK := ⟨rfl, rfl⟩)))
  | app a b iha ihb | add a b iha ihb | less a b iha ihb | pair a b iha ihb =>
    intro out hw hz
    simp only [E.wf, Bool.and_eq_true] at hw
    simp only [E.labs, List.length_append, List.length_cons] at hz
    have hln := insL_len a.labs out
    have h1 := iha out hw.1 (by omega)
    have h2 := ihb (insL out a.labs) hw.2 (by omega)
    simp only [E.labs, insL_append]
    simp only [E.tm, nd]
    refine fn_in ?_; refine acl_in Try.func159 rfl isfn_159 (Nat.le_of_ble_eq_true rfl) (fun R hR => ?_); rw [Try.results159] at hR; refine wg_run ?_; (simp only [Try.f159, go_sem])
    repeat' (first | (first | (((first | apply sp1 | apply sp2 | apply sp3 | apply sp4 | apply sp5 | apply sp6 | apply sp7) <;> intro hb) <;> (simp only [go_sem, hb])) | ((first | apply wm_done | apply wt_done | apply wg_run | refine fk ?_ ?_) <;> (simp only [go_sem]))) | (first | (refine wl_next (wg_run ?_); (simp only [go_sem])) | refine wd_rounds 6 ?_) | ((first | refine mxq6 [] ?_ | refine mxq5 [] ?_ | refine mxq4 [] ?_ | refine mxq3 [] ?_ | refine mxq2 [] ?_ | refine mxq1 [] ?_ | refine mxq0 [] ?_ | fail); (simp only [go_sem])) | (first | refine cdq ?_ (hc := h1) | refine cmq ?_ (hc := h1) | refine ctq ?_ (hc := h1)); (simp only [go_sem]) | (first | refine cdq ?_ (hc := h2) | refine cmq ?_ (hc := h2) | refine ctq ?_ (hc := h2)); (simp only [go_sem]) | fail)
    (refine hR _ (rat [] (hK := ⟨rfl, rfl⟩)))
  | ite a b c iha ihb ihc =>
    intro out hw hz
    simp only [E.wf, Bool.and_eq_true] at hw
    simp only [E.labs, List.length_append, List.length_cons] at hz
    have hln := insL_len a.labs out
    have hln2 := insL_len b.labs (insL out a.labs)
    have h1 := iha out hw.1 (by omega)
    have h2 := ihb (insL out a.labs) hw.2.1 (by omega)
    have h3 := ihc (insL (insL out a.labs) b.labs) hw.2.2 (by omega)
    simp only [E.labs, insL_append]
    simp only [E.tm, nd]
    refine fn_in ?_; refine acl_in Try.func159 rfl isfn_159 (Nat.le_of_ble_eq_true rfl) (fun R hR => ?_); rw [Try.results159] at hR; refine wg_run ?_; (simp only [Try.f159, go_sem])
    repeat' (first | (first | (((first | apply sp1 | apply sp2 | apply sp3 | apply sp4 | apply sp5 | apply sp6 | apply sp7) <;> intro hb) <;> (simp only [go_sem, hb])) | ((first | apply wm_done | apply wt_done | apply wg_run | refine fk ?_ ?_) <;> (simp only [go_sem]))) | (first | (refine wl_next (wg_run ?_); (simp only [go_sem])) | refine wd_rounds 6 ?_) | ((first | refine mxq6 [] ?_ | refine mxq5 [] ?_ | refine mxq4 [] ?_ | refine mxq3 [] ?_ | refine mxq2 [] ?_ | refine mxq1 [] ?_ | refine mxq0 [] ?_ | fail); (simp only [go_sem])) | (first | refine cdq ?_ (hc := h1) | refine cmq ?_ (hc := h1) | refine ctq ?_ (hc := h1)); (simp only [go_sem]) | (first | refine cdq ?_ (hc := h2) | refine cmq ?_ (hc := h2) | refine ctq ?_ (hc := h2)); (simp only [go_sem]) | (first | refine cdq ?_ (hc := h3) | refine cmq ?_ (hc := h3) | refine ctq ?_ (hc := h3)); (simp only [go_sem]) | fail)
    (refine hR _ (rat [] (hK := ⟨rfl, rfl⟩)))
  | cast s t l a ih =>
    intro out hw hz
    simp only [E.wf, Bool.and_eq_true] at hw
    simp only [E.labs, List.length_append, List.length_cons] at hz
    have hs := l4Sorted out l (by omega)
    have hln := insF_length l out
    have h1 := ih (insF out l) hw.2.2.2 (by omega)
    simp only [E.labs, show insL out (l :: a.labs) = insL (insF out l) a.labs from rfl]
    simp only [E.tm, nd]
    refine fn_in ?_; refine acl_in Try.func159 rfl isfn_159 (Nat.le_of_ble_eq_true rfl) (fun R hR => ?_); rw [Try.results159] at hR; refine wg_run ?_; (simp only [Try.f159, go_sem])
    repeat' (first | (first | (((first | apply sp1 | apply sp2 | apply sp3 | apply sp4 | apply sp5 | apply sp6 | apply sp7) <;> intro hb) <;> (simp only [go_sem, hb])) | ((first | apply wm_done | apply wt_done | apply wg_run | refine fk ?_ ?_) <;> (simp only [go_sem]))) | (first | (refine wl_next (wg_run ?_); (simp only [go_sem])) | refine wd_rounds 6 ?_) | ((first | refine mxq6 [] ?_ | refine mxq5 [] ?_ | refine mxq4 [] ?_ | refine mxq3 [] ?_ | refine mxq2 [] ?_ | refine mxq1 [] ?_ | refine mxq0 [] ?_ | fail); (simp only [go_sem])) | (first | refine cdq ?_ (hc := hs) | refine cmq ?_ (hc := hs) | refine ctq ?_ (hc := hs)); (simp only [go_sem]) | (first | refine cdq ?_ (hc := h1) | refine cmq ?_ (hc := h1) | refine ctq ?_ (hc := h1)); (simp only [go_sem]) | fail)
    (refine hR _ (rat [] (hK := ⟨rfl, rfl⟩)))
  | lam _ _ a ih =>
    intro out hw hz
    simp only [E.wf, Bool.and_eq_true] at hw
    simp only [E.labs, List.length_append, List.length_cons] at hz
    have h1 := ih out hw.2.2 (by omega)
    simp only [E.labs]
    simp only [E.tm, nd]
    refine fn_in ?_; refine acl_in Try.func159 rfl isfn_159 (Nat.le_of_ble_eq_true rfl) (fun R hR => ?_); rw [Try.results159] at hR; refine wg_run ?_; (simp only [Try.f159, go_sem])
    repeat' (first | (first | (((first | apply sp1 | apply sp2 | apply sp3 | apply sp4 | apply sp5 | apply sp6 | apply sp7) <;> intro hb) <;> (simp only [go_sem, hb])) | ((first | apply wm_done | apply wt_done | apply wg_run | refine fk ?_ ?_) <;> (simp only [go_sem]))) | (first | (refine wl_next (wg_run ?_); (simp only [go_sem])) | refine wd_rounds 6 ?_) | ((first | refine mxq6 [] ?_ | refine mxq5 [] ?_ | refine mxq4 [] ?_ | refine mxq3 [] ?_ | refine mxq2 [] ?_ | refine mxq1 [] ?_ | refine mxq0 [] ?_ | fail); (simp only [go_sem])) | (first | refine cdq ?_ (hc := h1) | refine cmq ?_ (hc := h1) | refine ctq ?_ (hc := h1)); (simp only [go_sem]) | fail)
    (refine hR _ (rat [] (hK := ⟨rfl, rfl⟩)))
  | fst a ih | snd a ih =>
    intro out hw hz
    simp only [E.wf] at hw
    simp only [E.labs, List.length_append, List.length_cons] at hz
    have h1 := ih out hw (by omega)
    simp only [E.labs]
    simp only [E.tm, nd]
    refine fn_in ?_; refine acl_in Try.func159 rfl isfn_159 (Nat.le_of_ble_eq_true rfl) (fun R hR => ?_); rw [Try.results159] at hR; refine wg_run ?_; (simp only [Try.f159, go_sem])
    repeat' (first | (first | (((first | apply sp1 | apply sp2 | apply sp3 | apply sp4 | apply sp5 | apply sp6 | apply sp7) <;> intro hb) <;> (simp only [go_sem, hb])) | ((first | apply wm_done | apply wt_done | apply wg_run | refine fk ?_ ?_) <;> (simp only [go_sem]))) | (first | (refine wl_next (wg_run ?_); (simp only [go_sem])) | refine wd_rounds 6 ?_) | ((first | refine mxq6 [] ?_ | refine mxq5 [] ?_ | refine mxq4 [] ?_ | refine mxq3 [] ?_ | refine mxq2 [] ?_ | refine mxq1 [] ?_ | refine mxq0 [] ?_ | fail); (simp only [go_sem])) | (first | refine cdq ?_ (hc := h1) | refine cmq ?_ (hc := h1) | refine ctq ?_ (hc := h1)); (simp only [go_sem]) | fail)
    (refine hR _ (rat [] (hK := ⟨rfl, rfl⟩)))
  | _ =>
    rename_i t a ih
    intro out hw hz
    simp only [E.wf, Bool.and_eq_true] at hw
    simp only [E.labs, List.length_append, List.length_cons] at hz
    have h1 := ih out hw.2 (by omega)
    simp only [E.labs]
    simp only [E.tm, nd]
    refine fn_in ?_; refine acl_in Try.func159 rfl isfn_159 (Nat.le_of_ble_eq_true rfl) (fun R hR => ?_); rw [Try.results159] at hR; refine wg_run ?_; (simp only [Try.f159, go_sem])
    repeat' (first | (first | (((first | apply sp1 | apply sp2 | apply sp3 | apply sp4 | apply sp5 | apply sp6 | apply sp7) <;> intro hb) <;> (simp only [go_sem, hb])) | ((first | apply wm_done | apply wt_done | apply wg_run | refine fk ?_ ?_) <;> (simp only [go_sem]))) | (first | (refine wl_next (wg_run ?_); (simp only [go_sem])) | refine wd_rounds 6 ?_) | ((first | refine mxq6 [] ?_ | refine mxq5 [] ?_ | refine mxq4 [] ?_ | refine mxq3 [] ?_ | refine mxq2 [] ?_ | refine mxq1 [] ?_ | refine mxq0 [] ?_ | fail); (simp only [go_sem])) | (first | refine cdq ?_ (hc := h1) | refine cmq ?_ (hc := h1) | refine ctq ?_ (hc := h1)); (simp only [go_sem]) | fail)
    (refine hR _ (rat [] (hK := ⟨rfl, rfl⟩)))
theorem sCastLabels (t : Tm) (h : t.size < 100000000) : AFn Try.prog 116 [.agg (teC t)] (.one (.sl (intR t.labsV))) := by
  have hv := sCastV t (by omega)
  unfold Tm.labsV
  cases e : t.castV
  · rw [e] at hv
    refine fn_in ?_; refine acl_in Try.func116 rfl isfn_116 (Nat.le_of_ble_eq_true rfl) (fun R hR => ?_); rw [Try.results116] at hR; refine wg_run ?_; (simp only [Try.f116, go_sem])
    repeat' (first | (first | (((first | apply sp1 | apply sp2 | apply sp3 | apply sp4 | apply sp5 | apply sp6 | apply sp7) <;> intro hb) <;> (simp only [go_sem, hb])) | ((first | apply wm_done | apply wt_done | apply wg_run | refine fk ?_ ?_) <;> (simp only [go_sem]))) | (first | refine cdq ?_ (hc := hv) | refine cmq ?_ (hc := hv) | refine ctq ?_ (hc := hv)); (simp only [go_sem]))
    (refine hR _ (rat [] (hK := ⟨rfl, rfl⟩)))
  · rw [e] at hv
    obtain ⟨x, rfl, hx⟩ := Tm.castV_E e
    have hn := x.labs_nodes hx
    have hl := l4LabelsE x [] (E.wf_ok hx) (by simp only [List.length_nil]; omega)
    rw [insL_setL, ← E.labs_tm] at hl
    refine fn_in ?_; refine acl_in Try.func116 rfl isfn_116 (Nat.le_of_ble_eq_true rfl) (fun R hR => ?_); rw [Try.results116] at hR; refine wg_run ?_; (simp only [Try.f116, go_sem])
    repeat' (first | (first | (((first | apply sp1 | apply sp2 | apply sp3 | apply sp4 | apply sp5 | apply sp6 | apply sp7) <;> intro hb) <;> (simp only [go_sem, hb])) | ((first | apply wm_done | apply wt_done | apply wg_run | refine fk ?_ ?_) <;> (simp only [go_sem]))) | (first | refine cdq ?_ (hc := hv) | refine cmq ?_ (hc := hv) | refine ctq ?_ (hc := hv)); (simp only [go_sem]) | (first | refine cdq ?_ (hc := hl) | refine cmq ?_ (hc := hl) | refine ctq ?_ (hc := hl)); (simp only [go_sem]) | ((first | refine mxq6 [] ?_ | refine mxq5 [] ?_ | refine mxq4 [] ?_ | refine mxq3 [] ?_ | refine mxq2 [] ?_ | refine mxq1 [] ?_ | refine mxq0 [] ?_ | fail); (simp only [go_sem])) | fail)
    (refine hR _ (rat [] (hK := ⟨rfl, rfl⟩)))
theorem sUnsafeLabels (t : Tm) (h : t.size < 100000000) : AFn Try.prog 51 [.agg (teC t)] (.one (.sl (intR t.unsV))) := by
  have hl := sCastLabels t h
  unfold Tm.unsV
  unfold Tm.labsV at hl
  cases e : t.castV
  · rw [e] at hl
    simp only [] at hl
    refine fn_in ?_; refine acl_in Try.func51 rfl isfn_51 (Nat.le_of_ble_eq_true rfl) (fun R hR => ?_); rw [Try.results51] at hR; refine wg_run ?_; (simp only [Try.f51, go_sem])
    repeat' (first | (first | (((first | apply sp1 | apply sp2 | apply sp3 | apply sp4 | apply sp5 | apply sp6 | apply sp7) <;> intro hb) <;> (simp only [go_sem, hb])) | ((first | apply wm_done | apply wt_done | apply wg_run | refine fk ?_ ?_) <;> (simp only [go_sem]))) | (first | refine cdq ?_ (hc := hl) | refine cmq ?_ (hc := hl) | refine ctq ?_ (hc := hl)); (simp only [go_sem]) | (first | (refine wl_next (wg_run ?_); (simp only [go_sem])) | refine wd_rounds 6 ?_) | fail)
    (refine hR _ (rat [] (hK := ⟨rfl, rfl⟩)))
  · rw [e] at hl
    simp only [] at hl
    obtain ⟨x, rfl, hx⟩ := Tm.castV_E e
    have hw := E.wf_ok hx
    rw [E.labs_tm] at hl ⊢
    have hll := x.labs_nodes hx
    have hmem := (setL_spec x.labs).2.1
    have hsl := (setL_spec x.labs).2.2
    have hok := x.labs_ok hw
    have hfin := insL_unsL x.tm.safeB x.labs
    simp only []
    rw [← hfin]
    have hlab : ∀ k : Nat, k < (setL x.labs).length → lab (Sh.num (setL x.labs) k) = true := fun k hk => hok _ ((hmem _).1 (num_mem hk))
    generalize setL x.labs = L at *
    have hsafe : ∀ l : Int, lab l = true → AFn Try.prog 117 [.agg (teC x.tm), .one (.sc (.int .i64 l))] (.one (.sc (.bool (x.tm.safeB l)))) := fun l hl => sSafe l hl x hw
    generalize x.tm.safeB = p at *
    refine fn_in ?_; refine acl_in Try.func51 rfl isfn_51 (Nat.le_of_ble_eq_true rfl) (fun R hR => ?_); rw [Try.results51] at hR; refine wg_run ?_; (simp only [Try.f51, go_sem])
    repeat' (first | (first | (((first | apply sp1 | apply sp2 | apply sp3 | apply sp4 | apply sp5 | apply sp6 | apply sp7) <;> intro hb) <;> (simp only [go_sem, hb])) | ((first | apply wm_done | apply wt_done | apply wg_run | refine fk ?_ ?_) <;> (simp only [go_sem]))) | (first | refine cdq ?_ (hc := hl) | refine cmq ?_ (hc := hl) | refine ctq ?_ (hc := hl)); (simp only [go_sem]) | fail)
    refine wd_for [1, 3, 4, 5] (fun (x' : Nat × List Int) => [.one (.ptr 9 0 0 0), .one (match x'.2 with | [] => .row 1 1 0 | z :: m => .sl (intR (z :: m))), .one (.sl (intR L)), .one (.sc (.int .i64 (x'.1 : Nat)))])
      (fun x' => match x'.2 with | [] => [⟨9, 28, .mut, [teC x.tm]⟩, ⟨1, 3, .mut, []⟩] | z :: m => [⟨9, 28, .mut, [teC x.tm]⟩])
      (fun x' => x'.1 ≤ L.length ∧ x'.2 = insL [] (unsL p (L.take x'.1))) (fun x' => L.length - x'.1) (0, []) ⟨Nat.zero_le _, rfl⟩ (hat [0, 1] (hI := ⟨rfl, rfl⟩)) ?_
    rintro ⟨k, acc⟩ ⟨hk, hacc⟩ G hG
    simp only [] at hk hacc hG
    have hal : acc.length ≤ 2 * L.length := by
      have := insL_len (unsL p (L.take k)) []
      have := unsL_len p (L.take k)
      rw [hacc]; simp only [List.length_nil, List.length_take] at *; omega
    refine wg_run ?_
    (simp only [go_sem])
    ((first | apply sp1 | apply sp2 | apply sp3 | apply sp4 | apply sp5 | apply sp6 | apply sp7) <;> intro hb) <;> (simp only [go_sem, hb])
    · have hk1 : k < L.length := by have := of_decide_eq_true hb; omega
      have hw1 := wrap_succ hk1 (by omega)
      have hlk := hlab k hk1
      have h1 := hsafe (Sh.num L k) hlk
      have h2 := hsafe (-Sh.num L k) (lab_neg2 hlk)
      have hwn : IntKind.i64.wrap (0 - Sh.num L k) = -Sh.num L k := by have := lab_bd hlk; rw [IntWalk.i64_in _ (by omega)]; omega
      have hnx := unsL_snoc p hk1
      have hnx2 : insL [] (unsL p (L.take (k + 1))) = insL (insL acc (one1 p (Sh.num L k))) (one1 p (-Sh.num L k)) := by rw [hnx, insL_append, insL_append, ← hacc]
      rw [insL_one1, insL_one1] at hnx2
      have s1 := l4Sorted acc (Sh.num L k) (by omega)
      have s2 := l4Sorted acc (-Sh.num L k) (by omega)
      have s3 := l4Sorted (insF acc (Sh.num L k)) (-Sh.num L k) (by have := insF_length (Sh.num L k) acc; omega)
      obtain ⟨a1, m1, q1⟩ := insF_cons (Sh.num L k) acc
      obtain ⟨a2, m2, q2⟩ := insF_cons (-Sh.num L k) acc
      obtain ⟨a3, m3, q3⟩ := insF_cons (-Sh.num L k) (a1 :: m1)
      rw [q1] at s1 s3
      rw [q2] at s2
      rw [q3] at s3
      cases e1 : p (Sh.num L k) <;> cases e2 : p (-Sh.num L k)
      all_goals
        rw [e1] at h1
        rw [e2] at h2
        rw [e1, e2] at hnx2
        simp only [q1, q2, q3] at hnx2
        clear q1 q2 q3
      all_goals
        rcases acc with _ | ⟨z, m⟩
      all_goals
        repeat' (first | (first | (simp only [go_sem, hb, hw1, hwn]) | (((first | apply sp1 | apply sp2 | apply sp3 | apply sp4 | apply sp5 | apply sp6 | apply sp7) <;> intro hb) <;> (simp only [go_sem, hb, hb, hw1, hwn])) | ((first | apply wm_done | apply wt_done | apply wg_run | refine fk ?_ ?_) <;> (simp only [go_sem, hb, hw1, hwn]))) | (first | refine cdq ?_ (hc := h1) | refine cmq ?_ (hc := h1) | refine ctq ?_ (hc := h1)); (simp only [go_sem]) | (first | refine cdq ?_ (hc := h2) | refine cmq ?_ (hc := h2) | refine ctq ?_ (hc := h2)); (simp only [go_sem]) | (first | refine cdq ?_ (hc := s1) | refine cmq ?_ (hc := s1) | refine ctq ?_ (hc := s1)); (simp only [go_sem]) | (first | refine cdq ?_ (hc := s2) | refine cmq ?_ (hc := s2) | refine ctq ?_ (hc := s2)); (simp only [go_sem]) | (first | refine cdq ?_ (hc := s3) | refine cmq ?_ (hc := s3) | refine ctq ?_ (hc := s3)); (simp only [go_sem]) | ((first | refine mxq6 [] ?_ | refine mxq5 [] ?_ | refine mxq4 [] ?_ | refine mxq3 [] ?_ | refine mxq2 [] ?_ | refine mxq1 [] ?_ | refine mxq0 [] ?_ | fail); (simp only [go_sem, hb, hwn])) | fail)
      all_goals
        first
          | exact hG (k + 1, []) _ _ ⟨by omega, hnx2.symm⟩ (by simp only []; omega) (hat [0, 1] (hI := ⟨rfl, rfl⟩))
          | exact hG (k + 1, z :: m) _ _ ⟨by omega, hnx2.symm⟩ (by simp only []; omega) (hat [0] (hI := ⟨rfl, rfl⟩))
          | exact hG (k + 1, a1 :: m1) _ _ ⟨by omega, hnx2.symm⟩ (by simp only []; omega) (hat [0] (hI := ⟨rfl, rfl⟩))
          | exact hG (k + 1, a2 :: m2) _ _ ⟨by omega, hnx2.symm⟩ (by simp only []; omega) (hat [0] (hI := ⟨rfl, rfl⟩))
          | exact hG (k + 1, a3 :: m3) _ _ ⟨by omega, hnx2.symm⟩ (by simp only []; omega) (hat [0] (hI := ⟨rfl, rfl⟩))
    · have hk1 : L.take k = L := List.take_of_length_le (by have := of_decide_eq_false hb; omega)
      rw [hk1] at hacc
      clear hG
      rcases acc with _ | ⟨z, m⟩
      all_goals
        (refine hR _ (rat [] (hK := ⟨?_, rfl⟩)))
        rw [← hacc]; rfl
theorem iUnsafeLabels (t : Tm) (h : t.size < 100000000) : AFn Try.prog 52 [.agg (teC t)] (.one (.sl (intR t.unsV))) := by
  have hv := iCastV t
  have hca := iCasts 100000000 (by omega) t h
  unfold Tm.unsV
  cases e : t.castV
  · rw [e] at hv
    refine fn_in ?_; refine acl_in Try.func52 rfl isfn_52 (Nat.le_of_ble_eq_true rfl) (fun R hR => ?_); rw [Try.results52] at hR; refine wg_run ?_; (simp only [Try.f52, go_sem])
    repeat' (first | (first | (((first | apply sp1 | apply sp2 | apply sp3 | apply sp4 | apply sp5 | apply sp6 | apply sp7) <;> intro hb) <;> (simp only [go_sem, hb])) | ((first | apply wm_done | apply wt_done | apply wg_run | refine fk ?_ ?_) <;> (simp only [go_sem]))) | (first | refine cdq ?_ (hc := hv) | refine cmq ?_ (hc := hv) | refine ctq ?_ (hc := hv)); (simp only [go_sem]))
    (refine hR _ (rat [] (hK := ⟨rfl, rfl⟩)))
  · rw [e] at hv
    obtain ⟨x, rfl, hx⟩ := Tm.castV_E e
    have hw := E.wf_ok hx
    have hn := x.labs_nodes hx
    have hcl : x.tm.castsL.length = x.labs.length := by rw [← E.labs_tm]; simp [Tm.labs]
    have hok := x.labs_ok hw
    have hlo : labsOf x.tm.castsL = x.labs := by rw [← E.labs_tm]; rfl
    simp only []
    rw [E.labs_tm, ← hlo]
    rw [← hlo] at hok
    have hlab : ∀ k : Nat, k < x.tm.castsL.length → lab (teKid x.tm.castsL k).label = true := fun k hk => by
      rw [← Sh.num_labs hk]; exact hok _ (num_mem (by simpa [labsOf] using hk))
    generalize x.tm.castsL = cs at *
    have hsafe : ∀ l : Int, lab l = true → AFn Try.prog 120 [.agg (teC x.tm), .one (.sc (.int .i64 l))] (.one (.sc (.bool (x.tm.safeB l)))) := fun l hl => iSafe x l hw hl (by omega)
    generalize x.tm.safeB = p at *
    refine fn_in ?_; refine acl_in Try.func52 rfl isfn_52 (Nat.le_of_ble_eq_true rfl) (fun R hR => ?_); rw [Try.results52] at hR; refine wg_run ?_; (simp only [Try.f52, go_sem])
    repeat' (first | (first | (((first | apply sp1 | apply sp2 | apply sp3 | apply sp4 | apply sp5 | apply sp6 | apply sp7) <;> intro hb) <;> (simp only [go_sem, hb])) | ((first | apply wm_done | apply wt_done | apply wg_run | refine fk ?_ ?_) <;> (simp only [go_sem]))) | (first | refine cdq ?_ (hc := hv) | refine cmq ?_ (hc := hv) | refine ctq ?_ (hc := hv)); (simp only [go_sem]) | (first | refine cdq ?_ (hc := hca) | refine cmq ?_ (hc := hca) | refine ctq ?_ (hc := hca)); (simp only [go_sem]) | fail)
    refine wd_for [1, 3, 12, 13, 14] (fun (x' : Nat × List Int) => [.one (.ptr 9 0 0 0), .one (match x'.2 with | [] => .sc (.slice none 0 0) | z :: m => .row 1 1 (m.length + 1)), .one (.sl (teR cs)), .one (.sc (.int .i64 cs.length)), .one (.sc (.int .i64 (x'.1 : Nat)))])
      (fun x' => match x'.2 with | [] => [⟨9, 28, .mut, [teC x.tm]⟩] | z :: m => [⟨9, 28, .mut, [teC x.tm]⟩, ⟨1, 3, .mut, intR (z :: m)⟩])
      (fun x' => x'.1 ≤ cs.length ∧ x'.2 = unsL p ((labsOf cs).take x'.1)) (fun x' => cs.length - x'.1) (0, []) ⟨Nat.zero_le _, rfl⟩ (hat [0] (hI := ⟨rfl, rfl⟩)) ?_
    rintro ⟨k, acc⟩ ⟨hk, hacc⟩ G hG
    simp only [] at hk hacc hG
    have hlc : (labsOf cs).length = cs.length := by simp [labsOf]
    have hal : acc.length ≤ 2 * cs.length := by
      have := unsL_len p ((labsOf cs).take k)
      rw [hacc]; simp only [List.length_take] at *; omega
    refine wg_run ?_
    (simp only [go_sem])
    ((first | apply sp1 | apply sp2 | apply sp3 | apply sp4 | apply sp5 | apply sp6 | apply sp7) <;> intro hb) <;> (simp only [go_sem, hb])
    · have hk1 : k < cs.length := by have := of_decide_eq_true hb; omega
      have hw1 := wrap_succ hk1 (by omega)
      have hlk := hlab k hk1
      have hnx := unsL_snoc p (l := labsOf cs) (k := k) (by omega)
      rw [Sh.num_labs hk1, ← hacc] at hnx
      have h1 := hsafe (teKid cs k).label hlk
      have h2 := hsafe (-(teKid cs k).label) (lab_neg2 hlk)
      have hwn : IntKind.i64.wrap (0 - (teKid cs k).label) = -(teKid cs k).label := by have := lab_bd hlk; rw [IntWalk.i64_in _ (by omega)]; omega
      have hcap1 : (acc.length + 1) * 8 ≤ 140737488355328 := by omega
      have hcap2 : (acc.length + 1 + 1) * 8 ≤ 140737488355328 := by omega
      cases e1 : p (teKid cs k).label <;> cases e2 : p (-(teKid cs k).label)
      all_goals
        rw [e1] at h1
        rw [e2] at h2
        simp only [one1, e1, e2, List.append_nil, List.nil_append, List.cons_append] at hnx
      all_goals
        rcases acc with _ | ⟨z, m⟩
      all_goals
        simp only [List.length_cons, List.length_nil, List.nil_append, List.cons_append] at hcap1 hcap2 hnx
      all_goals
        repeat' (first | (first | (simp only [go_sem, hb, hw1, hwn, hcap1, hcap2]) | (((first | apply sp1 | apply sp2 | apply sp3 | apply sp4 | apply sp5 | apply sp6 | apply sp7) <;> intro hb) <;> (simp only [go_sem, hb, hb, hw1, hwn, hcap1, hcap2])) | ((first | apply wm_done | apply wt_done | apply wg_run | refine fk ?_ ?_) <;> (simp only [go_sem, hb, hw1, hwn, hcap1, hcap2]))) | (first | (refine wl_next (wg_run ?_); (simp only [go_sem])) | refine wd_rounds 6 ?_) | (first | refine cdq ?_ (hc := h1) | refine cmq ?_ (hc := h1) | refine ctq ?_ (hc := h1)); (simp only [go_sem]) | (first | refine cdq ?_ (hc := h2) | refine cmq ?_ (hc := h2) | refine ctq ?_ (hc := h2)); (simp only [go_sem]) | ((first | refine mxq6 [] ?_ | refine mxq5 [] ?_ | refine mxq4 [] ?_ | refine mxq3 [] ?_ | refine mxq2 [] ?_ | refine mxq1 [] ?_ | refine mxq0 [] ?_ | fail); (simp only [go_sem, hb, hwn])) | fail)
      all_goals
        first
          | (refine hG (k + 1, _) _ _ ⟨by omega, hnx.symm⟩ (by simp only []; omega) (hat [0] (hI := ⟨?_, ?_⟩)) <;> first | rfl | (simp only [List.length_append, List.length_cons, List.length_nil]; done) | (simp only [intR, intR_append, List.cons_append, List.nil_append, List.append_assoc]; done))
          | (refine hG (k + 1, _) _ _ ⟨by omega, hnx.symm⟩ (by simp only []; omega) (hat [0, 1] (hI := ⟨?_, ?_⟩)) <;> first | rfl | (simp only [List.length_append, List.length_cons, List.length_nil]; done) | (simp only [intR, intR_append, List.cons_append, List.nil_append, List.append_assoc]; done))
          | (refine hG (k + 1, _) _ _ ⟨by omega, hnx.symm⟩ (by simp only []; omega) (hat [0, 4] (hI := ⟨?_, ?_⟩)) <;> first | rfl | (simp only [List.length_append, List.length_cons, List.length_nil]; done) | (simp only [intR, intR_append, List.cons_append, List.nil_append, List.append_assoc]; done))
          | (refine hG (k + 1, _) _ _ ⟨by omega, hnx.symm⟩ (by simp only []; omega) (hat [0, 5] (hI := ⟨?_, ?_⟩)) <;> first | rfl | (simp only [List.length_append, List.length_cons, List.length_nil]; done) | (simp only [intR, intR_append, List.cons_append, List.nil_append, List.append_assoc]; done))
          | (refine hG (k + 1, _) _ _ ⟨by omega, hnx.symm⟩ (by simp only []; omega) (hat [0, 6] (hI := ⟨?_, ?_⟩)) <;> first | rfl | (simp only [List.length_append, List.length_cons, List.length_nil]; done) | (simp only [intR, intR_append, List.cons_append, List.nil_append, List.append_assoc]; done))
          | (refine hG (k + 1, _) _ _ ⟨by omega, hnx.symm⟩ (by simp only []; omega) (hat [0, 7] (hI := ⟨?_, ?_⟩)) <;> first | rfl | (simp only [List.length_append, List.length_cons, List.length_nil]; done) | (simp only [intR, intR_append, List.cons_append, List.nil_append, List.append_assoc]; done))
    · have hk1 : (labsOf cs).take k = labsOf cs := List.take_of_length_le (by have := of_decide_eq_false hb; omega)
      rw [hk1] at hacc
      clear hG
      rcases acc with _ | ⟨z, m⟩
      · have e0 : setL [] = [] := (setL_nil_iff []).2 rfl
        have s1 := sortNil
        have s2 := compNil
        repeat' (first | (first | (((first | apply sp1 | apply sp2 | apply sp3 | apply sp4 | apply sp5 | apply sp6 | apply sp7) <;> intro hb) <;> (simp only [go_sem, hb])) | ((first | apply wm_done | apply wt_done | apply wg_run | refine fk ?_ ?_) <;> (simp only [go_sem]))) | (first | refine cdq ?_ (hc := s1) | refine cmq ?_ (hc := s1) | refine ctq ?_ (hc := s1)); (simp only [go_sem]) | (first | refine cdq ?_ (hc := s2) | refine cmq ?_ (hc := s2) | refine ctq ?_ (hc := s2)); (simp only [go_sem]) | fail)
        (refine hR _ (rat [] (hK := ⟨?_, rfl⟩)))
        rw [← hacc, e0]; rfl
      · simp only [List.length_cons] at hal
        have s1 := sortCall (z :: m) (by simp only [List.length_cons]; omega)
        have s2 := compCall (srt (z :: m)) (by rw [srt_length]; simp only [List.length_cons]; omega)
        rw [srt_length] at s2
        simp only [List.length_cons] at s1 s2
        simp only [show Lib.compact (srt (z :: m)) = setL (z :: m) from rfl] at s2
        repeat' (first | (first | (((first | apply sp1 | apply sp2 | apply sp3 | apply sp4 | apply sp5 | apply sp6 | apply sp7) <;> intro hb) <;> (simp only [go_sem, hb])) | ((first | apply wm_done | apply wt_done | apply wg_run | refine fk ?_ ?_) <;> (simp only [go_sem]))) | ((first | refine kdq [1] ?_ (hc := s1) | refine kmq [1] ?_ (hc := s1) | refine ktq [1] ?_ (hc := s1)); rintro _ _ ⟨rfl, rfl⟩ <;> (simp only [go_sem])) | ((first | refine kdq [1] ?_ (hc := s2) | refine kmq [1] ?_ (hc := s2) | refine ktq [1] ?_ (hc := s2)); rintro _ _ ⟨rfl, rfl⟩ <;> (simp only [go_sem])) | fail)
        (refine hR _ (rat [] (hK := ⟨?_, rfl⟩)))
        rw [← hacc]
end Go.Proofs.Ytfgjiamolknicaa
