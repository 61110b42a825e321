/- Texts of the proof, one behind another. -/
import Derived.Test.YtjmicohbnpbemaaGreatKF11
import Derived.Test.YtjmicohbnpbemaaGreatKF19
import Derived.Test.YtjmicohbnpbemaaGreatKF28
set_option linter.unusedSimpArgs false
set_option linter.unusedVariables false
/- Terms: safety for a label, on shadows. -/
namespace Go.Proofs.Grad
/-- is a cast unsafe for a label -/
noncomputable def unsB (l : Int) (c : Tm) : Bool := (c.label == l && !onT T.pos c.frm c.type) || (c.label == -l && !onT T.neg c.frm c.type)
theorem E.castsL_ok (e : E) (h : e.wf = true) : ∀ c ∈ e.tm.castsL, ∃ s t l a, c = (E.cast s t l a).tm ∧ s.depth ≤ 4 ∧ t.depth ≤ 4 ∧ s.cons t = true ∧ lab l = true := by
  induction e with
  | var _ | num _ | tru | fls => intro c hc; simp [E.tm, nd, Tm.castsL, Tm.castsLs, ownCast, Tm.kind] at hc
  | lam _ _ a ih =>
    simp only [E.wf, Bool.and_eq_true] at h
    intro c hc; simp [E.tm, nd, Tm.castsL, Tm.castsLs, ownCast, Tm.kind] at hc
    exact ih h.2.2 c hc
  | fst a ih | snd a ih =>
    simp only [E.wf, Bool.and_eq_true] at h
    intro c hc; simp [E.tm, nd, Tm.castsL, Tm.castsLs, ownCast, Tm.kind] at hc
    exact ih h c hc
  | app a b iha ihb | add a b iha ihb | less a b iha ihb | pair a b iha ihb =>
    simp only [E.wf, Bool.and_eq_true] at h
    intro c hc; simp [E.tm, nd, Tm.castsL, Tm.castsLs, ownCast, Tm.kind] at hc
    rcases hc with hc | hc
    · exact iha h.1 c hc
    · exact ihb h.2 c hc
  | ite a b c iha ihb ihc =>
    simp only [E.wf, Bool.and_eq_true] at h
    intro x hc; simp [E.tm, nd, Tm.castsL, Tm.castsLs, ownCast, Tm.kind] at hc
    rcases hc with hc | hc | hc
    · exact iha h.1 x hc
    · exact ihb h.2.1 x hc
    · exact ihc h.2.2 x hc
  | cast s t l a ih =>
    simp only [E.wf, Bool.and_eq_true, decide_eq_true_eq] at h
    intro c hc; simp [E.tm, Tm.castsL, Tm.castsLs, ownCast, Tm.kind] at hc
    rcases hc with rfl | hc
    · exact ⟨s, t, l, a, rfl, h.1.1, h.1.2, h.2.1, h.2.2.1⟩
    · exact ih h.2.2.2 c hc
  | _ =>
    rename_i ty a ih
    simp only [E.wf, Bool.and_eq_true] at h
    intro c hc; simp [E.tm, nd, Tm.castsL, Tm.castsLs, ownCast, Tm.kind] at hc
    exact ih h.2 c hc
theorem unsB_cast {s t : T} (hs : s.depth ≤ 4) (ht : t.depth ≤ 4) (l k : Int) (a : E) : unsB k (E.cast s t l a).tm = ((l == k && !s.pos t) || (l == -k && !s.neg t)) := by
  simp only [unsB, E.tm, Tm.label, Tm.frm, Tm.type, onT_ty _ hs ht]
theorem lab_bd {l : Int} (h : lab l = true) : -99 ≤ l ∧ l ≤ 99 := by simp [lab] at h; omega
/-- safe for a label -/
noncomputable def Tm.safeB (t : Tm) (l : Int) : Bool := !t.castsL.any (unsB l)
noncomputable def Tm.safeV (t : Tm) (l : Int) : Bool := t.castV && (lab l && t.safeB l)
end Go.Proofs.Grad
namespace Go.Proofs.YtjmicohbnpbemaaGreat
open Go.RowKit Go.Proofs.Sh Go.Proofs.Grad
set_option maxRecDepth 100000
set_option maxHeartbeats 8000000
theorem iSafe1 (l : Int) (hl : lab l = true) (c : Tm) (s t : T) (k : Int) (a : E) (hc : c = (E.cast s t k a).tm) (hs : s.depth ≤ 4) (ht : t.depth ≤ 4) : ACl Tryz.prog 69 [.agg (teC c), .one (.ptr 1 0 0 0)] [⟨1, 3, .mut, [[.sc (.int .i64 l)]]⟩] (fun r H' => r = .one (.sc (.bool (unsB l c))) ∧ H' = [⟨1, 3, .mut, [[.sc (.int .i64 l)]]⟩]) := by
  subst hc
  rw [unsB_cast hs ht]
  have hp := (iPN _).1 s t (Nat.lt_succ_self _)
  have hn := (iPN _).2 s t (Nat.lt_succ_self _)
  have hw : IntKind.i64.wrap (0 - l) = -l := by have := lab_bd hl; rw [IntWalk.i64_in _ (by omega)]; omega
  simp only [E.tm]
  refine acl_in Tryz.func69 rfl isfn_69 (Nat.le_of_ble_eq_true rfl) (fun R hR => ?_); rw [Tryz.results69] at hR; refine wg_run ?_; (simp only [Tryz.f69, go_sem, hw])
  repeat' (first | (first | (simp only [go_sem, hw]) | (((first | apply sp1 | apply sp2 | apply sp3 | apply sp4 | apply sp5 | apply sp6 | apply sp7) <;> intro hb) <;> (simp only [go_sem, hb, hw])) | ((first | apply wm_done | apply wt_done | apply wg_run | refine fk ?_ ?_) <;> (simp only [go_sem, hw]))) | (first | refine cdq ?_ (hc := hp) | refine cmq ?_ (hc := hp) | refine ctq ?_ (hc := hp)); (simp only [go_sem]) | (first | refine cdq ?_ (hc := hn) | refine cmq ?_ (hc := hn) | refine ctq ?_ (hc := hn)); (simp only [go_sem]))
  all_goals (refine hR _ (rat [] (hK := ⟨?_, ?_⟩)))
  all_goals (first | rfl | (clear hR hp hn hw; grind))
theorem iSafe (e : E) (l : Int) (he : e.wf = true) (hl : lab l = true) (h : e.tm.size < 274877906944) : AFn Tryz.prog 37 [.agg (teC e.tm), .one (.sc (.int .i64 l))] (.one (.sc (.bool (e.tm.safeB l)))) := by
  have hca := iCasts _ (Nat.le_refl _) e.tm h
  have hlen := e.tm.castsL_len
  have hnl := e.tm.nodes_le
  have hcc := teContainsFunc1 69 l (unsB l) e.tm.castsL (by omega) (fun k hk => by
    obtain ⟨s, t, j, a, h1, h2, h3, _, _⟩ := e.castsL_ok he _ (List.getElem_mem hk)
    rw [← teKid_eq hk] at h1
    exact iSafe1 l hl _ s t j a h1 h2 h3)
  unfold Tm.safeB
  refine fn_in ?_; refine acl_in Tryz.func37 rfl isfn_37 (Nat.le_of_ble_eq_true rfl) (fun R hR => ?_); rw [Tryz.results37] at hR; refine wg_run ?_; (simp only [Tryz.f37, go_sem])
  repeat' (first | (first | (((first | apply sp1 | apply sp2 | apply sp3 | apply sp4 | apply sp5 | apply sp6 | apply sp7) <;> intro hb) <;> (simp only [go_sem, hb])) | ((first | apply wm_done | apply wt_done | apply wg_run | refine fk ?_ ?_) <;> (simp only [go_sem]))) | (first | refine cdq ?_ (hc := hca) | refine cmq ?_ (hc := hca) | refine ctq ?_ (hc := hca)); (simp only [go_sem]) | (first | refine kdq [1] ?_ (hc := hcc) | refine kmq [1] ?_ (hc := hcc) | refine ktq [1] ?_ (hc := hcc)); rintro _ _ ⟨rfl, rfl⟩; (simp only [go_sem]))
  (refine hR _ (rat [] (hK := ⟨?_, rfl⟩)))
  rfl
theorem iSafeFor (t : Tm) (l : Int) (h : t.size < 100000000) (hl : -9223372036854775808 ≤ l ∧ l ≤ 9223372036854775807) : AFn Tryz.prog 25 [.agg (teC t), .one (.sc (.int .i64 l))] (.one (.sc (.bool (t.safeV l)))) := by
  have hv := iCastV t
  have hb := isLabel l
  unfold Tm.safeV
  cases hb1 : t.castV
  · rw [hb1] at hv
    refine fn_in ?_; refine acl_in Tryz.func25 rfl isfn_25 (Nat.le_of_ble_eq_true rfl) (fun R hR => ?_); rw [Tryz.results25] at hR; refine wg_run ?_; (simp only [Tryz.f25, go_sem])
    repeat' (first | (first | (((first | apply sp1 | apply sp2 | apply sp3 | apply sp4 | apply sp5 | apply sp6 | apply sp7) <;> intro hb) <;> (simp only [go_sem, hb])) | ((first | apply wm_done | apply wt_done | apply wg_run | refine fk ?_ ?_) <;> (simp only [go_sem]))) | (first | refine cdq ?_ (hc := hv) | refine cmq ?_ (hc := hv) | refine ctq ?_ (hc := hv)); (simp only [go_sem]))
    (refine hR _ (rat [] (hK := ⟨rfl, rfl⟩)))
  · rw [hb1] at hv
    cases hb2 : lab l
    · rw [hb2] at hb
      refine fn_in ?_; refine acl_in Tryz.func25 rfl isfn_25 (Nat.le_of_ble_eq_true rfl) (fun R hR => ?_); rw [Tryz.results25] at hR; refine wg_run ?_; (simp only [Tryz.f25, go_sem])
      repeat' (first | (first | (((first | apply sp1 | apply sp2 | apply sp3 | apply sp4 | apply sp5 | apply sp6 | apply sp7) <;> intro hb) <;> (simp only [go_sem, hb])) | ((first | apply wm_done | apply wt_done | apply wg_run | refine fk ?_ ?_) <;> (simp only [go_sem]))) | (first | refine cdq ?_ (hc := hv) | refine cmq ?_ (hc := hv) | refine ctq ?_ (hc := hv)); (simp only [go_sem]) | (first | refine cdq ?_ (hc := hb) | refine cmq ?_ (hc := hb) | refine ctq ?_ (hc := hb)); (simp only [go_sem]))
      (refine hR _ (rat [] (hK := ⟨rfl, rfl⟩)))
    · rw [hb2] at hb
      obtain ⟨e, rfl, he⟩ := Tm.castV_E hb1
      simp only [E.okC, Bool.and_eq_true] at he
      have hs := iSafe e l he.1 hb2 (by omega)
      refine fn_in ?_; refine acl_in Tryz.func25 rfl isfn_25 (Nat.le_of_ble_eq_true rfl) (fun R hR => ?_); rw [Tryz.results25] at hR; refine wg_run ?_; (simp only [Tryz.f25, go_sem])
      repeat' (first | (first | (((first | apply sp1 | apply sp2 | apply sp3 | apply sp4 | apply sp5 | apply sp6 | apply sp7) <;> intro hb) <;> (simp only [go_sem, hb])) | ((first | apply wm_done | apply wt_done | apply wg_run | refine fk ?_ ?_) <;> (simp only [go_sem]))) | (first | refine cdq ?_ (hc := hv) | refine cmq ?_ (hc := hv) | refine ctq ?_ (hc := hv)); (simp only [go_sem]) | (first | refine cdq ?_ (hc := hb) | refine cmq ?_ (hc := hb) | refine ctq ?_ (hc := hb)); (simp only [go_sem]) | (first | refine cdq ?_ (hc := hs) | refine cmq ?_ (hc := hs) | refine ctq ?_ (hc := hs)); (simp only [go_sem]))
      (refine hR _ (rat [] (hK := ⟨?_, rfl⟩)))
      rfl
end Go.Proofs.YtjmicohbnpbemaaGreat
/- The labels of a term's casts. No program, no world. -/
namespace Go.Proofs.Grad
def E.labs : E → List Int
  | .var _ | .num _ | .tru | .fls => []
  | .lam _ _ a | .fst a | .snd a | .asc _ a => a.labs
  | .app a b | .add a b | .less a b | .pair a b => a.labs ++ b.labs
  | .ite a b c => a.labs ++ (b.labs ++ c.labs)
  | .cast _ _ l a => l :: a.labs
end Go.Proofs.Grad
