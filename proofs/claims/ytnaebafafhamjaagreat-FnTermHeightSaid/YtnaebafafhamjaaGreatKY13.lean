/- Texts of the proof, one behind another. -/
import Derived.Test.YtnaebafafhamjaaGreatKY10
import Derived.Test.YtnaebafafhamjaaGreatKY11
import Derived.Test.YtnaebafafhamjaaGreatKY12
set_option linter.unusedSimpArgs false
set_option linter.unusedVariables false
/- Coercions: heights, in the program and in the reference. On shadows. -/
namespace Go.Proofs.Grad
/-- the height of a coercion as it comes -/
noncomputable def Co.height (c : Co) : Nat := match c.k? with | some k => k.height | none => 0
theorem K.co_height {k : K} (h : k.ok = true) : k.co.height = k.height := by simp only [Co.height, K.k?_co h]
theorem Co.height_none {c : Co} (h : c.valid = false) : c.height = 0 := by
  unfold Co.height
  cases e : c.k? with
  | none => rfl
  | some x => rw [Co.k?_valid, e] at h; cases h
end Go.Proofs.Grad
namespace Go.Proofs.YtnaebafafhamjaaGreat
open Go.RowKit Go.Proofs.Sh Go.Proofs.Grad
set_option maxRecDepth 100000
set_option maxHeartbeats 4000000
theorem coHeight (n : Nat) (hn : n ≤ 1099511627776) : ∀ k : K, k.size < n → AFn Tryz.prog 64 [.agg (coC k.co)] (.one (.sc (.int .i64 k.height))) := by
  induction n with
  | zero => intro k h; omega
  | succ n ih =>
    intro k h
    have ih := ih (by omega)
    have hk := K.height_size k
    rcases k with ⟨g⟩ | ⟨a1, a2⟩ | ⟨a1, a2⟩ | ⟨a1⟩ | ⟨l, a1⟩ | ⟨l, g⟩
    · refine fn_in ?_; refine acl_in Tryz.func64 rfl isfn_64 (Nat.le_of_ble_eq_true rfl) (fun R hR => ?_); rw [Tryz.results64] at hR; refine wg_run ?_; (simp only [Tryz.f64, go_sem])
      repeat' (first | (first | (((first | apply sp1 | apply sp2 | apply sp3 | apply sp4 | apply sp5 | apply sp6 | apply sp7) <;> intro hb) <;> (simp only [go_sem, hb])) | ((first | apply wm_done | apply wt_done | apply wg_run | refine fk ?_ ?_) <;> (simp only [go_sem]))) | (first | (refine wl_next (wg_run ?_); (simp only [go_sem])) | refine wd_rounds 6 ?_) | ((first | refine mxq6 [] ?_ | refine mxq5 [] ?_ | refine mxq4 [] ?_ | refine mxq3 [] ?_ | refine mxq2 [] ?_ | refine mxq1 [] ?_ | refine mxq0 [] ?_ | fail); (simp only [go_sem])))
      (refine hR _ (rat [] (hK := ⟨rfl, rfl⟩)))
    · simp only [K.size, K.height] at h hk
      have h1 := K.height_size a1; have h2 := K.height_size a2
      have hw : IntKind.i64.wrap (max (max 0 (a1.height : Int)) (a2.height : Int) + 1) = ((max a1.height a2.height + 1 : Nat) : Int) := by rw [IntWalk.i64_in _ (by omega)]; omega
      refine fn_in ?_; refine acl_in Tryz.func64 rfl isfn_64 (Nat.le_of_ble_eq_true rfl) (fun R hR => ?_); rw [Tryz.results64] at hR; refine wg_run ?_; (simp only [Tryz.f64, go_sem])
      repeat' (first | (first | (simp only [go_sem, hw]) | (((first | apply sp1 | apply sp2 | apply sp3 | apply sp4 | apply sp5 | apply sp6 | apply sp7) <;> intro hb) <;> (simp only [go_sem, hb, hw])) | ((first | apply wm_done | apply wt_done | apply wg_run | refine fk ?_ ?_) <;> (simp only [go_sem, hw]))) | (first | (refine wl_next (wg_run ?_); (simp only [go_sem])) | refine wd_rounds 6 ?_) | (first | refine cdq ?_ (hc := ih a1 (by omega)) | refine cmq ?_ (hc := ih a1 (by omega)) | refine ctq ?_ (hc := ih a1 (by omega))); (simp only [go_sem]) | (first | refine cdq ?_ (hc := ih a2 (by omega)) | refine cmq ?_ (hc := ih a2 (by omega)) | refine ctq ?_ (hc := ih a2 (by omega))); (simp only [go_sem]) | ((first | refine mxq6 [] ?_ | refine mxq5 [] ?_ | refine mxq4 [] ?_ | refine mxq3 [] ?_ | refine mxq2 [] ?_ | refine mxq1 [] ?_ | refine mxq0 [] ?_ | fail); (simp only [go_sem])))
      (refine hR _ (rat [] (hK := ⟨?_, rfl⟩)))
      rw [K.height]
    · simp only [K.size, K.height] at h hk
      have h1 := K.height_size a1; have h2 := K.height_size a2
      have hw : IntKind.i64.wrap (max (max 0 (a1.height : Int)) (a2.height : Int) + 1) = ((max a1.height a2.height + 1 : Nat) : Int) := by rw [IntWalk.i64_in _ (by omega)]; omega
      refine fn_in ?_; refine acl_in Tryz.func64 rfl isfn_64 (Nat.le_of_ble_eq_true rfl) (fun R hR => ?_); rw [Tryz.results64] at hR; refine wg_run ?_; (simp only [Tryz.f64, go_sem])
      repeat' (first | (first | (simp only [go_sem, hw]) | (((first | apply sp1 | apply sp2 | apply sp3 | apply sp4 | apply sp5 | apply sp6 | apply sp7) <;> intro hb) <;> (simp only [go_sem, hb, hw])) | ((first | apply wm_done | apply wt_done | apply wg_run | refine fk ?_ ?_) <;> (simp only [go_sem, hw]))) | (first | (refine wl_next (wg_run ?_); (simp only [go_sem])) | refine wd_rounds 6 ?_) | (first | refine cdq ?_ (hc := ih a1 (by omega)) | refine cmq ?_ (hc := ih a1 (by omega)) | refine ctq ?_ (hc := ih a1 (by omega))); (simp only [go_sem]) | (first | refine cdq ?_ (hc := ih a2 (by omega)) | refine cmq ?_ (hc := ih a2 (by omega)) | refine ctq ?_ (hc := ih a2 (by omega))); (simp only [go_sem]) | ((first | refine mxq6 [] ?_ | refine mxq5 [] ?_ | refine mxq4 [] ?_ | refine mxq3 [] ?_ | refine mxq2 [] ?_ | refine mxq1 [] ?_ | refine mxq0 [] ?_ | fail); (simp only [go_sem])))
      (refine hR _ (rat [] (hK := ⟨?_, rfl⟩)))
      rw [K.height]
    · simp only [K.size, K.height] at h hk
      have hw : max 0 (a1.height : Int) = (a1.height : Int) := by omega
      refine fn_in ?_; refine acl_in Tryz.func64 rfl isfn_64 (Nat.le_of_ble_eq_true rfl) (fun R hR => ?_); rw [Tryz.results64] at hR; refine wg_run ?_; (simp only [Tryz.f64, go_sem])
      repeat' (first | (first | (simp only [go_sem, hw]) | (((first | apply sp1 | apply sp2 | apply sp3 | apply sp4 | apply sp5 | apply sp6 | apply sp7) <;> intro hb) <;> (simp only [go_sem, hb, hw])) | ((first | apply wm_done | apply wt_done | apply wg_run | refine fk ?_ ?_) <;> (simp only [go_sem, hw]))) | (first | (refine wl_next (wg_run ?_); (simp only [go_sem])) | refine wd_rounds 6 ?_) | (first | refine cdq ?_ (hc := ih a1 (by omega)) | refine cmq ?_ (hc := ih a1 (by omega)) | refine ctq ?_ (hc := ih a1 (by omega))); (simp only [go_sem]) | ((first | refine mxq6 [] ?_ | refine mxq5 [] ?_ | refine mxq4 [] ?_ | refine mxq3 [] ?_ | refine mxq2 [] ?_ | refine mxq1 [] ?_ | refine mxq0 [] ?_ | fail); (simp only [go_sem])))
      (refine hR _ (rat [] (hK := ⟨?_, rfl⟩)))
      rw [K.height]
    · simp only [K.size, K.height] at h hk
      have hw : max 0 (a1.height : Int) = (a1.height : Int) := by omega
      refine fn_in ?_; refine acl_in Tryz.func64 rfl isfn_64 (Nat.le_of_ble_eq_true rfl) (fun R hR => ?_); rw [Tryz.results64] at hR; refine wg_run ?_; (simp only [Tryz.f64, go_sem])
      repeat' (first | (first | (simp only [go_sem, hw]) | (((first | apply sp1 | apply sp2 | apply sp3 | apply sp4 | apply sp5 | apply sp6 | apply sp7) <;> intro hb) <;> (simp only [go_sem, hb, hw])) | ((first | apply wm_done | apply wt_done | apply wg_run | refine fk ?_ ?_) <;> (simp only [go_sem, hw]))) | (first | (refine wl_next (wg_run ?_); (simp only [go_sem])) | refine wd_rounds 6 ?_) | (first | refine cdq ?_ (hc := ih a1 (by omega)) | refine cmq ?_ (hc := ih a1 (by omega)) | refine ctq ?_ (hc := ih a1 (by omega))); (simp only [go_sem]) | ((first | refine mxq6 [] ?_ | refine mxq5 [] ?_ | refine mxq4 [] ?_ | refine mxq3 [] ?_ | refine mxq2 [] ?_ | refine mxq1 [] ?_ | refine mxq0 [] ?_ | fail); (simp only [go_sem])))
      (refine hR _ (rat [] (hK := ⟨?_, rfl⟩)))
      rw [K.height]
    · refine fn_in ?_; refine acl_in Tryz.func64 rfl isfn_64 (Nat.le_of_ble_eq_true rfl) (fun R hR => ?_); rw [Tryz.results64] at hR; refine wg_run ?_; (simp only [Tryz.f64, go_sem])
      repeat' (first | (first | (((first | apply sp1 | apply sp2 | apply sp3 | apply sp4 | apply sp5 | apply sp6 | apply sp7) <;> intro hb) <;> (simp only [go_sem, hb])) | ((first | apply wm_done | apply wt_done | apply wg_run | refine fk ?_ ?_) <;> (simp only [go_sem]))) | (first | (refine wl_next (wg_run ?_); (simp only [go_sem])) | refine wd_rounds 6 ?_) | ((first | refine mxq6 [] ?_ | refine mxq5 [] ?_ | refine mxq4 [] ?_ | refine mxq3 [] ?_ | refine mxq2 [] ?_ | refine mxq1 [] ?_ | refine mxq0 [] ?_ | fail); (simp only [go_sem])))
      (refine hR _ (rat [] (hK := ⟨rfl, rfl⟩)))
theorem iHeight (c : Co) : AFn Tryz.prog 24 [.agg (coC c)] (.one (.sc (.int .i64 c.height))) := by
  have hv := coValid c
  cases e : c.valid with
  | false =>
    rw [e] at hv
    rw [Co.height_none e]
    refine fn_in ?_; refine acl_in Tryz.func24 rfl isfn_24 (Nat.le_of_ble_eq_true rfl) (fun R hR => ?_); rw [Tryz.results24] at hR; refine wg_run ?_; (simp only [Tryz.f24, go_sem])
    repeat' (first | (first | (((first | apply sp1 | apply sp2 | apply sp3 | apply sp4 | apply sp5 | apply sp6 | apply sp7) <;> intro hb) <;> (simp only [go_sem, hb])) | ((first | apply wm_done | apply wt_done | apply wg_run | refine fk ?_ ?_) <;> (simp only [go_sem]))) | (first | refine cdq ?_ (hc := hv) | refine cmq ?_ (hc := hv) | refine ctq ?_ (hc := hv)); (simp only [go_sem]) | ((first | refine mxq6 [] ?_ | refine mxq5 [] ?_ | refine mxq4 [] ?_ | refine mxq3 [] ?_ | refine mxq2 [] ?_ | refine mxq1 [] ?_ | refine mxq0 [] ?_ | fail); (simp only [go_sem])))
    (refine hR _ (rat [] (hK := ⟨rfl, rfl⟩)))
  | true =>
    rw [e] at hv
    obtain ⟨k, rfl, hk1, hk2⟩ := (Co.valid_iff c).1 e
    have hh := coHeight 1000 (by omega) k (by have := K.size_depth k 9 hk2; omega)
    rw [K.co_height (by simp [K.ok, hk1, hk2])]
    refine fn_in ?_; refine acl_in Tryz.func24 rfl isfn_24 (Nat.le_of_ble_eq_true rfl) (fun R hR => ?_); rw [Tryz.results24] at hR; refine wg_run ?_; (simp only [Tryz.f24, go_sem])
    repeat' (first | (first | (((first | apply sp1 | apply sp2 | apply sp3 | apply sp4 | apply sp5 | apply sp6 | apply sp7) <;> intro hb) <;> (simp only [go_sem, hb])) | ((first | apply wm_done | apply wt_done | apply wg_run | refine fk ?_ ?_) <;> (simp only [go_sem]))) | (first | refine cdq ?_ (hc := hv) | refine cmq ?_ (hc := hv) | refine ctq ?_ (hc := hv)); (simp only [go_sem]) | (first | refine cdq ?_ (hc := hh) | refine cmq ?_ (hc := hh) | refine ctq ?_ (hc := hh)); (simp only [go_sem]) | ((first | refine mxq6 [] ?_ | refine mxq5 [] ?_ | refine mxq4 [] ?_ | refine mxq3 [] ?_ | refine mxq2 [] ?_ | refine mxq1 [] ?_ | refine mxq0 [] ?_ | fail); (simp only [go_sem])))
    (refine hR _ (rat [] (hK := ⟨rfl, rfl⟩)))
theorem l6Height (n : Nat) (hn : n ≤ 1099511627776) : ∀ k : K, k.size < n → AFn Tryz.prog 91 [.agg (coC k.co)] (.one (.sc (.int .i64 k.height))) := by
  induction n with
  | zero => intro k h; omega
  | succ n ih =>
    intro k h
    have ih := ih (by omega)
    have hk := K.height_size k
    rcases k with ⟨g⟩ | ⟨a1, a2⟩ | ⟨a1, a2⟩ | ⟨a1⟩ | ⟨l, a1⟩ | ⟨l, g⟩
    · refine fn_in ?_; refine acl_in Tryz.func91 rfl isfn_91 (Nat.le_of_ble_eq_true rfl) (fun R hR => ?_); rw [Tryz.results91] at hR; refine wg_run ?_; (simp only [Tryz.f91, go_sem])
      repeat' (first | (first | (((first | apply sp1 | apply sp2 | apply sp3 | apply sp4 | apply sp5 | apply sp6 | apply sp7) <;> intro hb) <;> (simp only [go_sem, hb])) | ((first | apply wm_done | apply wt_done | apply wg_run | refine fk ?_ ?_) <;> (simp only [go_sem]))) | (first | (refine wl_next (wg_run ?_); (simp only [go_sem])) | refine wd_rounds 6 ?_) | ((first | refine mxq6 [] ?_ | refine mxq5 [] ?_ | refine mxq4 [] ?_ | refine mxq3 [] ?_ | refine mxq2 [] ?_ | refine mxq1 [] ?_ | refine mxq0 [] ?_ | fail); (simp only [go_sem])))
      (refine hR _ (rat [] (hK := ⟨rfl, rfl⟩)))
    · simp only [K.size, K.height] at h hk
      have h1 := K.height_size a1; have h2 := K.height_size a2
      have hd : decide ((a1.height : Int) > 0) = true := by simp; omega
      have hw : IntKind.i64.wrap ((a1.height : Int) + 1) = ((a1.height + 1 : Nat) : Int) := by rw [IntWalk.i64_in _ (by omega)]; omega
      have hw2 : IntKind.i64.wrap ((a2.height : Int) + 1) = ((a2.height + 1 : Nat) : Int) := by rw [IntWalk.i64_in _ (by omega)]; omega
      refine fn_in ?_; refine acl_in Tryz.func91 rfl isfn_91 (Nat.le_of_ble_eq_true rfl) (fun R hR => ?_); rw [Tryz.results91] at hR; refine wg_run ?_; (simp only [Tryz.f91, go_sem])
      repeat' (first | (first | (simp only [go_sem, hd, hw, hw2]) | (((first | apply sp1 | apply sp2 | apply sp3 | apply sp4 | apply sp5 | apply sp6 | apply sp7) <;> intro hb) <;> (simp only [go_sem, hb, hd, hw, hw2])) | ((first | apply wm_done | apply wt_done | apply wg_run | refine fk ?_ ?_) <;> (simp only [go_sem, hd, hw, hw2]))) | (first | (refine wl_next (wg_run ?_); (simp only [go_sem])) | refine wd_rounds 6 ?_) | (first | refine cdq ?_ (hc := ih a1 (by omega)) | refine cmq ?_ (hc := ih a1 (by omega)) | refine ctq ?_ (hc := ih a1 (by omega))); (simp only [go_sem]) | (first | refine cdq ?_ (hc := ih a2 (by omega)) | refine cmq ?_ (hc := ih a2 (by omega)) | refine ctq ?_ (hc := ih a2 (by omega))); (simp only [go_sem]) | ((first | refine mxq6 [] ?_ | refine mxq5 [] ?_ | refine mxq4 [] ?_ | refine mxq3 [] ?_ | refine mxq2 [] ?_ | refine mxq1 [] ?_ | refine mxq0 [] ?_ | fail); (simp only [go_sem])))
      all_goals (refine hR _ (rat [] (hK := ⟨?_, rfl⟩)))
      all_goals refine congrArg (fun m : Nat => AV.one (C.sc (Value.int .i64 (m : Int)))) (?_ : _ = _)
      all_goals simp only [K.height]
      all_goals simp only [decide_eq_true_eq, decide_eq_false_iff_not] at hb
      all_goals omega
    · simp only [K.size, K.height] at h hk
      have h1 := K.height_size a1; have h2 := K.height_size a2
      have hd : decide ((a1.height : Int) > 0) = true := by simp; omega
      have hw : IntKind.i64.wrap ((a1.height : Int) + 1) = ((a1.height + 1 : Nat) : Int) := by rw [IntWalk.i64_in _ (by omega)]; omega
      have hw2 : IntKind.i64.wrap ((a2.height : Int) + 1) = ((a2.height + 1 : Nat) : Int) := by rw [IntWalk.i64_in _ (by omega)]; omega
      refine fn_in ?_; refine acl_in Tryz.func91 rfl isfn_91 (Nat.le_of_ble_eq_true rfl) (fun R hR => ?_); rw [Tryz.results91] at hR; refine wg_run ?_; (simp only [Tryz.f91, go_sem])
      repeat' (first | (first | (simp only [go_sem, hd, hw, hw2]) | (((first | apply sp1 | apply sp2 | apply sp3 | apply sp4 | apply sp5 | apply sp6 | apply sp7) <;> intro hb) <;> (simp only [go_sem, hb, hd, hw, hw2])) | ((first | apply wm_done | apply wt_done | apply wg_run | refine fk ?_ ?_) <;> (simp only [go_sem, hd, hw, hw2]))) | (first | (refine wl_next (wg_run ?_); (simp only [go_sem])) | refine wd_rounds 6 ?_) | (first | refine cdq ?_ (hc := ih a1 (by omega)) | refine cmq ?_ (hc := ih a1 (by omega)) | refine ctq ?_ (hc := ih a1 (by omega))); (simp only [go_sem]) | (first | refine cdq ?_ (hc := ih a2 (by omega)) | refine cmq ?_ (hc := ih a2 (by omega)) | refine ctq ?_ (hc := ih a2 (by omega))); (simp only [go_sem]) | ((first | refine mxq6 [] ?_ | refine mxq5 [] ?_ | refine mxq4 [] ?_ | refine mxq3 [] ?_ | refine mxq2 [] ?_ | refine mxq1 [] ?_ | refine mxq0 [] ?_ | fail); (simp only [go_sem])))
      all_goals (refine hR _ (rat [] (hK := ⟨?_, rfl⟩)))
      all_goals refine congrArg (fun m : Nat => AV.one (C.sc (Value.int .i64 (m : Int)))) (?_ : _ = _)
      all_goals simp only [K.height]
      all_goals simp only [decide_eq_true_eq, decide_eq_false_iff_not] at hb
      all_goals omega
    · simp only [K.size, K.height] at h hk
      have h1 := K.height_size a1
      have hd : decide ((a1.height : Int) > 0) = true := by simp; omega
      refine fn_in ?_; refine acl_in Tryz.func91 rfl isfn_91 (Nat.le_of_ble_eq_true rfl) (fun R hR => ?_); rw [Tryz.results91] at hR; refine wg_run ?_; (simp only [Tryz.f91, go_sem])
      repeat' (first | (first | (simp only [go_sem, hd]) | (((first | apply sp1 | apply sp2 | apply sp3 | apply sp4 | apply sp5 | apply sp6 | apply sp7) <;> intro hb) <;> (simp only [go_sem, hb, hd])) | ((first | apply wm_done | apply wt_done | apply wg_run | refine fk ?_ ?_) <;> (simp only [go_sem, hd]))) | (first | (refine wl_next (wg_run ?_); (simp only [go_sem])) | refine wd_rounds 6 ?_) | (first | refine cdq ?_ (hc := ih a1 (by omega)) | refine cmq ?_ (hc := ih a1 (by omega)) | refine ctq ?_ (hc := ih a1 (by omega))); (simp only [go_sem]) | ((first | refine mxq6 [] ?_ | refine mxq5 [] ?_ | refine mxq4 [] ?_ | refine mxq3 [] ?_ | refine mxq2 [] ?_ | refine mxq1 [] ?_ | refine mxq0 [] ?_ | fail); (simp only [go_sem])))
      (refine hR _ (rat [] (hK := ⟨?_, rfl⟩)))
      rw [K.height]
    · simp only [K.size, K.height] at h hk
      have h1 := K.height_size a1
      have hd : decide ((a1.height : Int) > 0) = true := by simp; omega
      refine fn_in ?_; refine acl_in Tryz.func91 rfl isfn_91 (Nat.le_of_ble_eq_true rfl) (fun R hR => ?_); rw [Tryz.results91] at hR; refine wg_run ?_; (simp only [Tryz.f91, go_sem])
      repeat' (first | (first | (simp only [go_sem, hd]) | (((first | apply sp1 | apply sp2 | apply sp3 | apply sp4 | apply sp5 | apply sp6 | apply sp7) <;> intro hb) <;> (simp only [go_sem, hb, hd])) | ((first | apply wm_done | apply wt_done | apply wg_run | refine fk ?_ ?_) <;> (simp only [go_sem, hd]))) | (first | (refine wl_next (wg_run ?_); (simp only [go_sem])) | refine wd_rounds 6 ?_) | (first | refine cdq ?_ (hc := ih a1 (by omega)) | refine cmq ?_ (hc := ih a1 (by omega)) | refine ctq ?_ (hc := ih a1 (by omega))); (simp only [go_sem]) | ((first | refine mxq6 [] ?_ | refine mxq5 [] ?_ | refine mxq4 [] ?_ | refine mxq3 [] ?_ | refine mxq2 [] ?_ | refine mxq1 [] ?_ | refine mxq0 [] ?_ | fail); (simp only [go_sem])))
      (refine hR _ (rat [] (hK := ⟨?_, rfl⟩)))
      rw [K.height]
    · refine fn_in ?_; refine acl_in Tryz.func91 rfl isfn_91 (Nat.le_of_ble_eq_true rfl) (fun R hR => ?_); rw [Tryz.results91] at hR; refine wg_run ?_; (simp only [Tryz.f91, go_sem])
      repeat' (first | (first | (((first | apply sp1 | apply sp2 | apply sp3 | apply sp4 | apply sp5 | apply sp6 | apply sp7) <;> intro hb) <;> (simp only [go_sem, hb])) | ((first | apply wm_done | apply wt_done | apply wg_run | refine fk ?_ ?_) <;> (simp only [go_sem]))) | (first | (refine wl_next (wg_run ?_); (simp only [go_sem])) | refine wd_rounds 6 ?_) | ((first | refine mxq6 [] ?_ | refine mxq5 [] ?_ | refine mxq4 [] ?_ | refine mxq3 [] ?_ | refine mxq2 [] ?_ | refine mxq1 [] ?_ | refine mxq0 [] ?_ | fail); (simp only [go_sem])))
      (refine hR _ (rat [] (hK := ⟨rfl, rfl⟩)))
end Go.Proofs.YtnaebafafhamjaaGreat
/- Terms: heights, on shadows. -/
namespace Go.Proofs.Grad
/-- the greatest height of the coercions of a term's casts -/
def E.height : E → Nat
  | .var _ | .num _ | .tru | .fls => 0
  | .lam _ _ a | .fst a | .snd a | .asc _ a => a.height
  | .app a b | .add a b | .less a b | .pair a b => max a.height b.height
  | .ite a b c => max a.height (max b.height c.height)
  | .cast s t l a => max (T.cast s t l).height a.height
def coz : Co := .mk 0 0 0 []
def E.thOf (e : E) (c : Co) (ks : List (List Sh.C)) : List Sh.C :=
  [.sc (.int .i64 e.tm.kind), .sc (.string e.tm.name), .sc (.int .i64 e.tm.num), .sc (.int .i64 e.tm.type.kind), .sl (Sh.tyR e.tm.type.kids), .sc (.int .i64 e.tm.frm.kind), .sl (Sh.tyR e.tm.frm.kids), .sc (.int .i64 e.tm.label), .sl [], .sc (.int .i64 c.kind), .sc (.int .i64 c.tag), .sc (.int .i64 c.label), .sl (Sh.coR c.kids), .sl ks]
/-- a term with coercions, as a shadow -/
def E.th : E → List Sh.C
  | .var x => (E.var x).thOf coz []
  | .num n => (E.num n).thOf coz []
  | .tru => E.tru.thOf coz []
  | .fls => E.fls.thOf coz []
  | .lam x t a => (E.lam x t a).thOf coz [a.th]
  | .app a b => (E.app a b).thOf coz [a.th, b.th]
  | .add a b => (E.add a b).thOf coz [a.th, b.th]
  | .less a b => (E.less a b).thOf coz [a.th, b.th]
  | .ite a b c => (E.ite a b c).thOf coz [a.th, b.th, c.th]
  | .pair a b => (E.pair a b).thOf coz [a.th, b.th]
  | .fst a => (E.fst a).thOf coz [a.th]
  | .snd a => (E.snd a).thOf coz [a.th]
  | .asc t a => (E.asc t a).thOf coz [a.th]
  | .cast s t l a => (E.cast s t l a).thOf (T.cast s t l).co [a.th]
end Go.Proofs.Grad
namespace Go.Proofs.Sh
open Go.Proofs.Grad
@[go_sem] theorem th_length (e : E) : e.th.length = 14 := by cases e <;> rfl
@[go_sem] theorem th_treeL (e : E) : treeL e.th = true := by cases e <;> rfl
@[go_sem] theorem th_take (e : E) : e.th.take 14 = e.th := List.take_of_length_le (by rw [th_length]; exact Nat.le_refl _)
@[go_sem] theorem th_drop (e : E) : e.th.drop 14 = [] := List.drop_eq_nil_of_le (by rw [th_length]; exact Nat.le_refl _)
@[go_sem] theorem teC_app (t : Tm) (l : List C) : teC t ++ l = .sc (.int .i64 (t.kind)) :: .sc (.string (t.name)) :: .sc (.int .i64 (t.num)) :: .sc (.int .i64 (t.type).kind) :: .sl (tyR (t.type).kids) :: .sc (.int .i64 (t.frm).kind) :: .sl (tyR (t.frm).kids) :: .sc (.int .i64 (t.label)) :: .sl (teR (t.kids)) :: l := by rw [teC_eq]; rfl
@[go_sem] theorem coC_app (c : Co) (l : List C) : coC c ++ l = .sc (.int .i64 c.kind) :: .sc (.int .i64 c.tag) :: .sc (.int .i64 c.label) :: .sl (coR c.kids) :: l := by rw [coC_eq]; rfl
attribute [go_sem] List.getD_cons_zero List.getD_cons_succ List.getD_nil
end Go.Proofs.Sh
namespace Go.Proofs.YtnaebafafhamjaaGreat
open Go.RowKit Go.Proofs.Sh Go.Proofs.Grad
set_option maxRecDepth 100000
set_option maxHeartbeats 8000000
theorem iThrifty (e : E) (h : e.wf = true) : AFn Tryz.prog 54 [.agg (teC e.tm)] (.agg e.th) := by
  induction e with
  | var _ | num _ | tru | fls =>
    simp only [E.tm, nd]
    refine fn_in ?_; refine acl_in Tryz.func54 rfl isfn_54 (Nat.le_of_ble_eq_true rfl) (fun R hR => ?_); rw [Tryz.results54] at hR; refine wg_run ?_; (simp only [Tryz.f54, go_sem])
    repeat' (first | (first | (((first | apply sp1 | apply sp2 | apply sp3 | apply sp4 | apply sp5 | apply sp6 | apply sp7) <;> intro hb) <;> (simp only [go_sem, hb])) | ((first | apply wm_done | apply wt_done | apply wg_run | refine fk ?_ ?_) <;> (simp only [go_sem]))) | (first | (refine wl_next (wg_run ?_); (simp only [go_sem])) | refine wd_rounds 6 ?_))
    (refine hR _ (rat [] (hK := ⟨?_, rfl⟩)))
    rfl
  | app a b iha ihb | add a b iha ihb | less a b iha ihb | pair a b iha ihb =>
    simp only [E.wf, Bool.and_eq_true] at h
    have iha := iha h.1
    have ihb := ihb h.2
    simp only [E.tm, nd]
    refine fn_in ?_; refine acl_in Tryz.func54 rfl isfn_54 (Nat.le_of_ble_eq_true rfl) (fun R hR => ?_); rw [Tryz.results54] at hR; refine wg_run ?_; (simp only [Tryz.f54, go_sem])
    repeat' (first | (first | (((first | apply sp1 | apply sp2 | apply sp3 | apply sp4 | apply sp5 | apply sp6 | apply sp7) <;> intro hb) <;> (simp only [go_sem, hb])) | ((first | apply wm_done | apply wt_done | apply wg_run | refine fk ?_ ?_) <;> (simp only [go_sem]))) | (first | (refine wl_next (wg_run ?_); (simp only [go_sem])) | refine wd_rounds 6 ?_) | ((first | refine mxq6 [] ?_ | refine mxq5 [] ?_ | refine mxq4 [] ?_ | refine mxq3 [] ?_ | refine mxq2 [] ?_ | refine mxq1 [] ?_ | refine mxq0 [] ?_ | fail); (simp only [go_sem])) | (first | refine cdq ?_ (hc := iha) | refine cmq ?_ (hc := iha) | refine ctq ?_ (hc := iha)); (simp only [go_sem]) | (first | refine cdq ?_ (hc := ihb) | refine cmq ?_ (hc := ihb) | refine ctq ?_ (hc := ihb)); (simp only [go_sem]))
    (refine hR _ (rat [] (hK := ⟨?_, rfl⟩)))
    rfl
  | cast s t l a ih =>
    simp only [E.wf, Bool.and_eq_true, decide_eq_true_eq] at h
    have ih := ih h.2.2.2
    have hc := iCoerce _ s t l (Nat.lt_succ_self _) h.2.1 (lab_wrap h.2.2.1)
    simp only [E.tm]
    refine fn_in ?_; refine acl_in Tryz.func54 rfl isfn_54 (Nat.le_of_ble_eq_true rfl) (fun R hR => ?_); rw [Tryz.results54] at hR; refine wg_run ?_; (simp only [Tryz.f54, go_sem])
    repeat' (first | (first | (((first | apply sp1 | apply sp2 | apply sp3 | apply sp4 | apply sp5 | apply sp6 | apply sp7) <;> intro hb) <;> (simp only [go_sem, hb])) | ((first | apply wm_done | apply wt_done | apply wg_run | refine fk ?_ ?_) <;> (simp only [go_sem]))) | (first | (refine wl_next (wg_run ?_); (simp only [go_sem])) | refine wd_rounds 6 ?_) | ((first | refine mxq6 [] ?_ | refine mxq5 [] ?_ | refine mxq4 [] ?_ | refine mxq3 [] ?_ | refine mxq2 [] ?_ | refine mxq1 [] ?_ | refine mxq0 [] ?_ | fail); (simp only [go_sem])) | (first | refine cdq ?_ (hc := hc) | refine cmq ?_ (hc := hc) | refine ctq ?_ (hc := hc)); (simp only [go_sem]) | (first | refine cdq ?_ (hc := ih) | refine cmq ?_ (hc := ih) | refine ctq ?_ (hc := ih)); (simp only [go_sem]))
    (refine hR _ (rat [] (hK := ⟨?_, rfl⟩)))
    rfl
  | ite a b c iha ihb ihc =>
    simp only [E.wf, Bool.and_eq_true] at h
    have iha := iha h.1
    have ihb := ihb h.2.1
    have ihc := ihc h.2.2
    simp only [E.tm, nd]
    refine fn_in ?_; refine acl_in Tryz.func54 rfl isfn_54 (Nat.le_of_ble_eq_true rfl) (fun R hR => ?_); rw [Tryz.results54] at hR; refine wg_run ?_; (simp only [Tryz.f54, go_sem])
    repeat' (first | (first | (((first | apply sp1 | apply sp2 | apply sp3 | apply sp4 | apply sp5 | apply sp6 | apply sp7) <;> intro hb) <;> (simp only [go_sem, hb])) | ((first | apply wm_done | apply wt_done | apply wg_run | refine fk ?_ ?_) <;> (simp only [go_sem]))) | (first | (refine wl_next (wg_run ?_); (simp only [go_sem])) | refine wd_rounds 6 ?_) | ((first | refine mxq6 [] ?_ | refine mxq5 [] ?_ | refine mxq4 [] ?_ | refine mxq3 [] ?_ | refine mxq2 [] ?_ | refine mxq1 [] ?_ | refine mxq0 [] ?_ | fail); (simp only [go_sem])) | (first | refine cdq ?_ (hc := iha) | refine cmq ?_ (hc := iha) | refine ctq ?_ (hc := iha)); (simp only [go_sem]) | (first | refine cdq ?_ (hc := ihb) | refine cmq ?_ (hc := ihb) | refine ctq ?_ (hc := ihb)); (simp only [go_sem]) | (first | refine cdq ?_ (hc := ihc) | refine cmq ?_ (hc := ihc) | refine ctq ?_ (hc := ihc)); (simp only [go_sem]))
    (refine hR _ (rat [] (hK := ⟨?_, rfl⟩)))
    rfl
  | lam _ _ a ih =>
    simp only [E.wf, Bool.and_eq_true] at h
    have ih := ih h.2.2
    simp only [E.tm]
    refine fn_in ?_; refine acl_in Tryz.func54 rfl isfn_54 (Nat.le_of_ble_eq_true rfl) (fun R hR => ?_); rw [Tryz.results54] at hR; refine wg_run ?_; (simp only [Tryz.f54, go_sem])
    repeat' (first | (first | (((first | apply sp1 | apply sp2 | apply sp3 | apply sp4 | apply sp5 | apply sp6 | apply sp7) <;> intro hb) <;> (simp only [go_sem, hb])) | ((first | apply wm_done | apply wt_done | apply wg_run | refine fk ?_ ?_) <;> (simp only [go_sem]))) | (first | (refine wl_next (wg_run ?_); (simp only [go_sem])) | refine wd_rounds 6 ?_) | ((first | refine mxq6 [] ?_ | refine mxq5 [] ?_ | refine mxq4 [] ?_ | refine mxq3 [] ?_ | refine mxq2 [] ?_ | refine mxq1 [] ?_ | refine mxq0 [] ?_ | fail); (simp only [go_sem])) | (first | refine cdq ?_ (hc := ih) | refine cmq ?_ (hc := ih) | refine ctq ?_ (hc := ih)); (simp only [go_sem]))
    (refine hR _ (rat [] (hK := ⟨?_, rfl⟩)))
    rfl
  | fst a ih | snd a ih =>
    simp only [E.wf] at h
    have ih := ih h
    simp only [E.tm, nd]
    refine fn_in ?_; refine acl_in Tryz.func54 rfl isfn_54 (Nat.le_of_ble_eq_true rfl) (fun R hR => ?_); rw [Tryz.results54] at hR; refine wg_run ?_; (simp only [Tryz.f54, go_sem])
    repeat' (first | (first | (((first | apply sp1 | apply sp2 | apply sp3 | apply sp4 | apply sp5 | apply sp6 | apply sp7) <;> intro hb) <;> (simp only [go_sem, hb])) | ((first | apply wm_done | apply wt_done | apply wg_run | refine fk ?_ ?_) <;> (simp only [go_sem]))) | (first | (refine wl_next (wg_run ?_); (simp only [go_sem])) | refine wd_rounds 6 ?_) | ((first | refine mxq6 [] ?_ | refine mxq5 [] ?_ | refine mxq4 [] ?_ | refine mxq3 [] ?_ | refine mxq2 [] ?_ | refine mxq1 [] ?_ | refine mxq0 [] ?_ | fail); (simp only [go_sem])) | (first | refine cdq ?_ (hc := ih) | refine cmq ?_ (hc := ih) | refine ctq ?_ (hc := ih)); (simp only [go_sem]))
    (refine hR _ (rat [] (hK := ⟨?_, rfl⟩)))
    rfl
  | _ =>
    rename_i ty a ih
    simp only [E.wf, Bool.and_eq_true] at h
    have ih := ih h.2
    simp only [E.tm]
    refine fn_in ?_; refine acl_in Tryz.func54 rfl isfn_54 (Nat.le_of_ble_eq_true rfl) (fun R hR => ?_); rw [Tryz.results54] at hR; refine wg_run ?_; (simp only [Tryz.f54, go_sem])
    repeat' (first | (first | (((first | apply sp1 | apply sp2 | apply sp3 | apply sp4 | apply sp5 | apply sp6 | apply sp7) <;> intro hb) <;> (simp only [go_sem, hb])) | ((first | apply wm_done | apply wt_done | apply wg_run | refine fk ?_ ?_) <;> (simp only [go_sem]))) | (first | (refine wl_next (wg_run ?_); (simp only [go_sem])) | refine wd_rounds 6 ?_) | ((first | refine mxq6 [] ?_ | refine mxq5 [] ?_ | refine mxq4 [] ?_ | refine mxq3 [] ?_ | refine mxq2 [] ?_ | refine mxq1 [] ?_ | refine mxq0 [] ?_ | fail); (simp only [go_sem])) | (first | refine cdq ?_ (hc := ih) | refine cmq ?_ (hc := ih) | refine ctq ?_ (hc := ih)); (simp only [go_sem]))
    (refine hR _ (rat [] (hK := ⟨?_, rfl⟩)))
    rfl

theorem iThHeight (e : E) (h : e.wf = true) : AFn Tryz.prog 55 [.agg e.th] (.one (.sc (.int .i64 (e.height : Nat)))) := by
  induction e with
  | var _ | num _ | tru | fls =>
    simp only [E.th, E.thOf, E.tm, nd]
    refine fn_in ?_; refine acl_in Tryz.func55 rfl isfn_55 (Nat.le_of_ble_eq_true rfl) (fun R hR => ?_); rw [Tryz.results55] at hR; refine wg_run ?_; (simp only [Tryz.f55, go_sem])
    repeat' (first | (first | (((first | apply sp1 | apply sp2 | apply sp3 | apply sp4 | apply sp5 | apply sp6 | apply sp7) <;> intro hb) <;> (simp only [go_sem, hb])) | ((first | apply wm_done | apply wt_done | apply wg_run | refine fk ?_ ?_) <;> (simp only [go_sem]))) | (first | (refine wl_next (wg_run ?_); (simp only [go_sem])) | refine wd_rounds 6 ?_))
    (refine hR _ (rat [] (hK := ⟨?_, rfl⟩)))
    rfl
  | app a b iha ihb | add a b iha ihb | less a b iha ihb | pair a b iha ihb =>
    simp only [E.wf, Bool.and_eq_true] at h
    have iha := iha h.1
    have ihb := ihb h.2
    simp only [E.th, E.thOf, E.tm, nd]
    refine fn_in ?_; refine acl_in Tryz.func55 rfl isfn_55 (Nat.le_of_ble_eq_true rfl) (fun R hR => ?_); rw [Tryz.results55] at hR; refine wg_run ?_; (simp only [Tryz.f55, go_sem])
    repeat' (first | (first | (((first | apply sp1 | apply sp2 | apply sp3 | apply sp4 | apply sp5 | apply sp6 | apply sp7) <;> intro hb) <;> (simp only [go_sem, hb])) | ((first | apply wm_done | apply wt_done | apply wg_run | refine fk ?_ ?_) <;> (simp only [go_sem]))) | (first | (refine wl_next (wg_run ?_); (simp only [go_sem])) | refine wd_rounds 6 ?_) | ((first | refine mxq6 [] ?_ | refine mxq5 [] ?_ | refine mxq4 [] ?_ | refine mxq3 [] ?_ | refine mxq2 [] ?_ | refine mxq1 [] ?_ | refine mxq0 [] ?_ | fail); (simp only [go_sem])) | (first | refine cdq ?_ (hc := iha) | refine cmq ?_ (hc := iha) | refine ctq ?_ (hc := iha)); (simp only [go_sem]) | (first | refine cdq ?_ (hc := ihb) | refine cmq ?_ (hc := ihb) | refine ctq ?_ (hc := ihb)); (simp only [go_sem]))
    (refine hR _ (rat [] (hK := ⟨?_, rfl⟩)))
    simp only [E.height]
    congr 3 <;> omega
  | cast s t l a ih =>
    simp only [E.wf, Bool.and_eq_true, decide_eq_true_eq] at h
    have ih := ih h.2.2.2
    have hsz := T.cast_size s t l
    have hs1 : s.size < 1000 := by have := Ty.valid_16 (t := s.ty) (by rw [T.valid_ty]; simpa using h.1.1); rw [T.ty_size] at this; omega
    have hs2 : t.size < 1000 := by have := Ty.valid_16 (t := t.ty) (by rw [T.valid_ty]; simpa using h.1.2); rw [T.ty_size] at this; omega
    have hc := coHeight 100000 (by omega) (T.cast s t l) (by omega)
    rw [coC_eq] at hc
    simp only [E.th, E.thOf, E.tm, nd]
    refine fn_in ?_; refine acl_in Tryz.func55 rfl isfn_55 (Nat.le_of_ble_eq_true rfl) (fun R hR => ?_); rw [Tryz.results55] at hR; refine wg_run ?_; (simp only [Tryz.f55, go_sem])
    repeat' (first | (first | (((first | apply sp1 | apply sp2 | apply sp3 | apply sp4 | apply sp5 | apply sp6 | apply sp7) <;> intro hb) <;> (simp only [go_sem, hb])) | ((first | apply wm_done | apply wt_done | apply wg_run | refine fk ?_ ?_) <;> (simp only [go_sem]))) | (first | (refine wl_next (wg_run ?_); (simp only [go_sem])) | refine wd_rounds 6 ?_) | ((first | refine mxq6 [] ?_ | refine mxq5 [] ?_ | refine mxq4 [] ?_ | refine mxq3 [] ?_ | refine mxq2 [] ?_ | refine mxq1 [] ?_ | refine mxq0 [] ?_ | fail); (simp only [go_sem])) | (first | refine cdq ?_ (hc := hc) | refine cmq ?_ (hc := hc) | refine ctq ?_ (hc := hc)); (simp only [go_sem]) | (first | refine cdq ?_ (hc := ih) | refine cmq ?_ (hc := ih) | refine ctq ?_ (hc := ih)); (simp only [go_sem]))
    (refine hR _ (rat [] (hK := ⟨?_, rfl⟩)))
    simp only [E.height]
    congr 3 <;> omega
  | ite a b c iha ihb ihc =>
    simp only [E.wf, Bool.and_eq_true] at h
    have iha := iha h.1
    have ihb := ihb h.2.1
    have ihc := ihc h.2.2
    simp only [E.th, E.thOf, E.tm, nd]
    refine fn_in ?_; refine acl_in Tryz.func55 rfl isfn_55 (Nat.le_of_ble_eq_true rfl) (fun R hR => ?_); rw [Tryz.results55] at hR; refine wg_run ?_; (simp only [Tryz.f55, go_sem])
    repeat' (first | (first | (((first | apply sp1 | apply sp2 | apply sp3 | apply sp4 | apply sp5 | apply sp6 | apply sp7) <;> intro hb) <;> (simp only [go_sem, hb])) | ((first | apply wm_done | apply wt_done | apply wg_run | refine fk ?_ ?_) <;> (simp only [go_sem]))) | (first | (refine wl_next (wg_run ?_); (simp only [go_sem])) | refine wd_rounds 6 ?_) | ((first | refine mxq6 [] ?_ | refine mxq5 [] ?_ | refine mxq4 [] ?_ | refine mxq3 [] ?_ | refine mxq2 [] ?_ | refine mxq1 [] ?_ | refine mxq0 [] ?_ | fail); (simp only [go_sem])) | (first | refine cdq ?_ (hc := iha) | refine cmq ?_ (hc := iha) | refine ctq ?_ (hc := iha)); (simp only [go_sem]) | (first | refine cdq ?_ (hc := ihb) | refine cmq ?_ (hc := ihb) | refine ctq ?_ (hc := ihb)); (simp only [go_sem]) | (first | refine cdq ?_ (hc := ihc) | refine cmq ?_ (hc := ihc) | refine ctq ?_ (hc := ihc)); (simp only [go_sem]))
    (refine hR _ (rat [] (hK := ⟨?_, rfl⟩)))
    simp only [E.height]
    congr 3 <;> omega
  | lam _ _ a ih =>
    simp only [E.wf, Bool.and_eq_true] at h
    have ih := ih h.2.2
    simp only [E.th, E.thOf, E.tm, nd]
    refine fn_in ?_; refine acl_in Tryz.func55 rfl isfn_55 (Nat.le_of_ble_eq_true rfl) (fun R hR => ?_); rw [Tryz.results55] at hR; refine wg_run ?_; (simp only [Tryz.f55, go_sem])
    repeat' (first | (first | (((first | apply sp1 | apply sp2 | apply sp3 | apply sp4 | apply sp5 | apply sp6 | apply sp7) <;> intro hb) <;> (simp only [go_sem, hb])) | ((first | apply wm_done | apply wt_done | apply wg_run | refine fk ?_ ?_) <;> (simp only [go_sem]))) | (first | (refine wl_next (wg_run ?_); (simp only [go_sem])) | refine wd_rounds 6 ?_) | ((first | refine mxq6 [] ?_ | refine mxq5 [] ?_ | refine mxq4 [] ?_ | refine mxq3 [] ?_ | refine mxq2 [] ?_ | refine mxq1 [] ?_ | refine mxq0 [] ?_ | fail); (simp only [go_sem])) | (first | refine cdq ?_ (hc := ih) | refine cmq ?_ (hc := ih) | refine ctq ?_ (hc := ih)); (simp only [go_sem]))
    (refine hR _ (rat [] (hK := ⟨?_, rfl⟩)))
    simp only [E.height]
    congr 3 <;> omega
  | fst a ih | snd a ih =>
    simp only [E.wf] at h
    have ih := ih h
    simp only [E.th, E.thOf, E.tm, nd]
    refine fn_in ?_; refine acl_in Tryz.func55 rfl isfn_55 (Nat.le_of_ble_eq_true rfl) (fun R hR => ?_); rw [Tryz.results55] at hR; refine wg_run ?_; (simp only [Tryz.f55, go_sem])
    repeat' (first | (first | (((first | apply sp1 | apply sp2 | apply sp3 | apply sp4 | apply sp5 | apply sp6 | apply sp7) <;> intro hb) <;> (simp only [go_sem, hb])) | ((first | apply wm_done | apply wt_done | apply wg_run | refine fk ?_ ?_) <;> (simp only [go_sem]))) | (first | (refine wl_next (wg_run ?_); (simp only [go_sem])) | refine wd_rounds 6 ?_) | ((first | refine mxq6 [] ?_ | refine mxq5 [] ?_ | refine mxq4 [] ?_ | refine mxq3 [] ?_ | refine mxq2 [] ?_ | refine mxq1 [] ?_ | refine mxq0 [] ?_ | fail); (simp only [go_sem])) | (first | refine cdq ?_ (hc := ih) | refine cmq ?_ (hc := ih) | refine ctq ?_ (hc := ih)); (simp only [go_sem]))
    (refine hR _ (rat [] (hK := ⟨?_, rfl⟩)))
    simp only [E.height]
    congr 3 <;> omega
  | _ =>
    rename_i ty a ih
    simp only [E.wf, Bool.and_eq_true] at h
    have ih := ih h.2
    simp only [E.th, E.thOf, E.tm, nd]
    refine fn_in ?_; refine acl_in Tryz.func55 rfl isfn_55 (Nat.le_of_ble_eq_true rfl) (fun R hR => ?_); rw [Tryz.results55] at hR; refine wg_run ?_; (simp only [Tryz.f55, go_sem])
    repeat' (first | (first | (((first | apply sp1 | apply sp2 | apply sp3 | apply sp4 | apply sp5 | apply sp6 | apply sp7) <;> intro hb) <;> (simp only [go_sem, hb])) | ((first | apply wm_done | apply wt_done | apply wg_run | refine fk ?_ ?_) <;> (simp only [go_sem]))) | (first | (refine wl_next (wg_run ?_); (simp only [go_sem])) | refine wd_rounds 6 ?_) | ((first | refine mxq6 [] ?_ | refine mxq5 [] ?_ | refine mxq4 [] ?_ | refine mxq3 [] ?_ | refine mxq2 [] ?_ | refine mxq1 [] ?_ | refine mxq0 [] ?_ | fail); (simp only [go_sem])) | (first | refine cdq ?_ (hc := ih) | refine cmq ?_ (hc := ih) | refine ctq ?_ (hc := ih)); (simp only [go_sem]))
    (refine hR _ (rat [] (hK := ⟨?_, rfl⟩)))
    simp only [E.height]
    congr 3 <;> omega
theorem l7Casts (e : E) (h : e.wf = true) : AFn Tryz.prog 58 [.agg (teC e.tm)] (.one (.sc (.int .i64 (e.height : Nat)))) := by
  induction e with
  | var _ | num _ | tru | fls =>
    simp only [E.tm, nd]
    refine fn_in ?_; refine acl_in Tryz.func58 rfl isfn_58 (Nat.le_of_ble_eq_true rfl) (fun R hR => ?_); rw [Tryz.results58] at hR; refine wg_run ?_; (simp only [Tryz.f58, go_sem])
    repeat' (first | (first | (((first | apply sp1 | apply sp2 | apply sp3 | apply sp4 | apply sp5 | apply sp6 | apply sp7) <;> intro hb) <;> (simp only [go_sem, hb])) | ((first | apply wm_done | apply wt_done | apply wg_run | refine fk ?_ ?_) <;> (simp only [go_sem]))) | (first | (refine wl_next (wg_run ?_); (simp only [go_sem])) | refine wd_rounds 6 ?_))
    (refine hR _ (rat [] (hK := ⟨?_, rfl⟩)))
    rfl
  | app a b iha ihb | add a b iha ihb | less a b iha ihb | pair a b iha ihb =>
    simp only [E.wf, Bool.and_eq_true] at h
    have iha := iha h.1
    have ihb := ihb h.2
    simp only [E.tm, nd]
    refine fn_in ?_; refine acl_in Tryz.func58 rfl isfn_58 (Nat.le_of_ble_eq_true rfl) (fun R hR => ?_); rw [Tryz.results58] at hR; refine wg_run ?_; (simp only [Tryz.f58, go_sem])
    repeat' (first | (first | (((first | apply sp1 | apply sp2 | apply sp3 | apply sp4 | apply sp5 | apply sp6 | apply sp7) <;> intro hb) <;> (simp only [go_sem, hb])) | ((first | apply wm_done | apply wt_done | apply wg_run | refine fk ?_ ?_) <;> (simp only [go_sem]))) | (first | (refine wl_next (wg_run ?_); (simp only [go_sem])) | refine wd_rounds 6 ?_) | ((first | refine mxq6 [] ?_ | refine mxq5 [] ?_ | refine mxq4 [] ?_ | refine mxq3 [] ?_ | refine mxq2 [] ?_ | refine mxq1 [] ?_ | refine mxq0 [] ?_ | fail); (simp only [go_sem])) | (first | refine cdq ?_ (hc := iha) | refine cmq ?_ (hc := iha) | refine ctq ?_ (hc := iha)); (simp only [go_sem]) | (first | refine cdq ?_ (hc := ihb) | refine cmq ?_ (hc := ihb) | refine ctq ?_ (hc := ihb)); (simp only [go_sem]))
    all_goals (refine hR _ (rat [] (hK := ⟨?_, rfl⟩)))
    all_goals simp only [decide_eq_true_eq, decide_eq_false_iff_not] at *
    all_goals simp only [E.height]
    all_goals (congr 3 <;> omega)
  | cast s t l a ih =>
    simp only [E.wf, Bool.and_eq_true, decide_eq_true_eq] at h
    have ih := ih h.2.2.2
    have hsz := T.cast_size s t l
    have hs1 : s.size < 1000 := by have := Ty.valid_16 (t := s.ty) (by rw [T.valid_ty]; simpa using h.1.1); rw [T.ty_size] at this; omega
    have hs2 : t.size < 1000 := by have := Ty.valid_16 (t := t.ty) (by rw [T.valid_ty]; simpa using h.1.2); rw [T.ty_size] at this; omega
    have hc := l6Height 100000 (by omega) (T.cast s t l) (by omega)
    have hq := sCast _ s t l (Nat.lt_succ_self _) h.2.1 (lab_wrap h.2.2.1)
    simp only [E.tm]
    refine fn_in ?_; refine acl_in Tryz.func58 rfl isfn_58 (Nat.le_of_ble_eq_true rfl) (fun R hR => ?_); rw [Tryz.results58] at hR; refine wg_run ?_; (simp only [Tryz.f58, go_sem])
    repeat' (first | (first | (((first | apply sp1 | apply sp2 | apply sp3 | apply sp4 | apply sp5 | apply sp6 | apply sp7) <;> intro hb) <;> (simp only [go_sem, hb])) | ((first | apply wm_done | apply wt_done | apply wg_run | refine fk ?_ ?_) <;> (simp only [go_sem]))) | (first | (refine wl_next (wg_run ?_); (simp only [go_sem])) | refine wd_rounds 6 ?_) | ((first | refine mxq6 [] ?_ | refine mxq5 [] ?_ | refine mxq4 [] ?_ | refine mxq3 [] ?_ | refine mxq2 [] ?_ | refine mxq1 [] ?_ | refine mxq0 [] ?_ | fail); (simp only [go_sem])) | (first | refine cdq ?_ (hc := hq) | refine cmq ?_ (hc := hq) | refine ctq ?_ (hc := hq)); (simp only [go_sem]) | (first | refine cdq ?_ (hc := hc) | refine cmq ?_ (hc := hc) | refine ctq ?_ (hc := hc)); (simp only [go_sem]) | (first | refine cdq ?_ (hc := ih) | refine cmq ?_ (hc := ih) | refine ctq ?_ (hc := ih)); (simp only [go_sem]))
    all_goals (refine hR _ (rat [] (hK := ⟨?_, rfl⟩)))
    all_goals simp only [decide_eq_true_eq, decide_eq_false_iff_not] at hb
    all_goals simp only [E.height]
    all_goals (congr 3 <;> omega)
  | ite a b c iha ihb ihc =>
    simp only [E.wf, Bool.and_eq_true] at h
    have iha := iha h.1
    have ihb := ihb h.2.1
    have ihc := ihc h.2.2
    simp only [E.tm, nd]
    refine fn_in ?_; refine acl_in Tryz.func58 rfl isfn_58 (Nat.le_of_ble_eq_true rfl) (fun R hR => ?_); rw [Tryz.results58] at hR; refine wg_run ?_; (simp only [Tryz.f58, go_sem])
    repeat' (first | (first | (((first | apply sp1 | apply sp2 | apply sp3 | apply sp4 | apply sp5 | apply sp6 | apply sp7) <;> intro hb) <;> (simp only [go_sem, hb])) | ((first | apply wm_done | apply wt_done | apply wg_run | refine fk ?_ ?_) <;> (simp only [go_sem]))) | (first | (refine wl_next (wg_run ?_); (simp only [go_sem])) | refine wd_rounds 6 ?_) | ((first | refine mxq6 [] ?_ | refine mxq5 [] ?_ | refine mxq4 [] ?_ | refine mxq3 [] ?_ | refine mxq2 [] ?_ | refine mxq1 [] ?_ | refine mxq0 [] ?_ | fail); (simp only [go_sem])) | (first | refine cdq ?_ (hc := iha) | refine cmq ?_ (hc := iha) | refine ctq ?_ (hc := iha)); (simp only [go_sem]) | (first | refine cdq ?_ (hc := ihb) | refine cmq ?_ (hc := ihb) | refine ctq ?_ (hc := ihb)); (simp only [go_sem]) | (first | refine cdq ?_ (hc := ihc) | refine cmq ?_ (hc := ihc) | refine ctq ?_ (hc := ihc)); (simp only [go_sem]))
    all_goals (refine hR _ (rat [] (hK := ⟨?_, rfl⟩)))
    all_goals simp only [decide_eq_true_eq, decide_eq_false_iff_not] at *
    all_goals simp only [E.height]
    all_goals (congr 3 <;> omega)
  | lam _ _ a ih =>
    simp only [E.wf, Bool.and_eq_true] at h
    have ih := ih h.2.2
    simp only [E.tm]
    refine fn_in ?_; refine acl_in Tryz.func58 rfl isfn_58 (Nat.le_of_ble_eq_true rfl) (fun R hR => ?_); rw [Tryz.results58] at hR; refine wg_run ?_; (simp only [Tryz.f58, go_sem])
    repeat' (first | (first | (((first | apply sp1 | apply sp2 | apply sp3 | apply sp4 | apply sp5 | apply sp6 | apply sp7) <;> intro hb) <;> (simp only [go_sem, hb])) | ((first | apply wm_done | apply wt_done | apply wg_run | refine fk ?_ ?_) <;> (simp only [go_sem]))) | (first | (refine wl_next (wg_run ?_); (simp only [go_sem])) | refine wd_rounds 6 ?_) | ((first | refine mxq6 [] ?_ | refine mxq5 [] ?_ | refine mxq4 [] ?_ | refine mxq3 [] ?_ | refine mxq2 [] ?_ | refine mxq1 [] ?_ | refine mxq0 [] ?_ | fail); (simp only [go_sem])) | (first | refine cdq ?_ (hc := ih) | refine cmq ?_ (hc := ih) | refine ctq ?_ (hc := ih)); (simp only [go_sem]))
    all_goals (refine hR _ (rat [] (hK := ⟨?_, rfl⟩)))
    all_goals simp only [decide_eq_true_eq, decide_eq_false_iff_not] at hb
    all_goals simp only [E.height]
    all_goals (congr 3 <;> omega)
  | fst a ih | snd a ih =>
    simp only [E.wf] at h
    have ih := ih h
    simp only [E.tm, nd]
    refine fn_in ?_; refine acl_in Tryz.func58 rfl isfn_58 (Nat.le_of_ble_eq_true rfl) (fun R hR => ?_); rw [Tryz.results58] at hR; refine wg_run ?_; (simp only [Tryz.f58, go_sem])
    repeat' (first | (first | (((first | apply sp1 | apply sp2 | apply sp3 | apply sp4 | apply sp5 | apply sp6 | apply sp7) <;> intro hb) <;> (simp only [go_sem, hb])) | ((first | apply wm_done | apply wt_done | apply wg_run | refine fk ?_ ?_) <;> (simp only [go_sem]))) | (first | (refine wl_next (wg_run ?_); (simp only [go_sem])) | refine wd_rounds 6 ?_) | ((first | refine mxq6 [] ?_ | refine mxq5 [] ?_ | refine mxq4 [] ?_ | refine mxq3 [] ?_ | refine mxq2 [] ?_ | refine mxq1 [] ?_ | refine mxq0 [] ?_ | fail); (simp only [go_sem])) | (first | refine cdq ?_ (hc := ih) | refine cmq ?_ (hc := ih) | refine ctq ?_ (hc := ih)); (simp only [go_sem]))
    all_goals (refine hR _ (rat [] (hK := ⟨?_, rfl⟩)))
    all_goals simp only [decide_eq_true_eq, decide_eq_false_iff_not] at hb
    all_goals simp only [E.height]
    all_goals (congr 3 <;> omega)
  | _ =>
    rename_i ty a ih
    simp only [E.wf, Bool.and_eq_true] at h
    have ih := ih h.2
    simp only [E.tm]
    refine fn_in ?_; refine acl_in Tryz.func58 rfl isfn_58 (Nat.le_of_ble_eq_true rfl) (fun R hR => ?_); rw [Tryz.results58] at hR; refine wg_run ?_; (simp only [Tryz.f58, go_sem])
    repeat' (first | (first | (((first | apply sp1 | apply sp2 | apply sp3 | apply sp4 | apply sp5 | apply sp6 | apply sp7) <;> intro hb) <;> (simp only [go_sem, hb])) | ((first | apply wm_done | apply wt_done | apply wg_run | refine fk ?_ ?_) <;> (simp only [go_sem]))) | (first | (refine wl_next (wg_run ?_); (simp only [go_sem])) | refine wd_rounds 6 ?_) | ((first | refine mxq6 [] ?_ | refine mxq5 [] ?_ | refine mxq4 [] ?_ | refine mxq3 [] ?_ | refine mxq2 [] ?_ | refine mxq1 [] ?_ | refine mxq0 [] ?_ | fail); (simp only [go_sem])) | (first | refine cdq ?_ (hc := ih) | refine cmq ?_ (hc := ih) | refine ctq ?_ (hc := ih)); (simp only [go_sem]))
    all_goals (refine hR _ (rat [] (hK := ⟨?_, rfl⟩)))
    all_goals simp only [decide_eq_true_eq, decide_eq_false_iff_not] at hb
    all_goals simp only [E.height]
    all_goals (congr 3 <;> omega)
theorem Tm.height_ex (t : Tm) : ∃ n : Nat, (t.castV = true → ∃ e : E, e.tm = t ∧ e.okC = true ∧ n = e.height) ∧ (t.castV = false → n = 0) := by
  cases h : t.castV
  · exact ⟨0, by simp, fun _ => rfl⟩
  · obtain ⟨e, h1, h2⟩ := Tm.castV_E h
    exact ⟨e.height, fun _ => ⟨e, h1, h2, rfl⟩, by simp⟩
noncomputable def Tm.heightV (t : Tm) : Nat := (Tm.height_ex t).choose
theorem Tm.heightV_spec (t : Tm) : (t.castV = true → ∃ e : E, e.tm = t ∧ e.okC = true ∧ Tm.heightV t = e.height) ∧ (t.castV = false → Tm.heightV t = 0) := (Tm.height_ex t).choose_spec
theorem iTermHeight (t : Tm) (h : t.size < 100000000) : AFn Tryz.prog 19 [.agg (teC t)] (.one (.sc (.int .i64 (Tm.heightV t : Nat)))) := by
  have hv := iCastV t
  obtain ⟨s1, s2⟩ := Tm.heightV_spec t
  cases hb : t.castV
  · rw [hb] at hv
    rw [s2 hb]
    refine fn_in ?_; refine acl_in Tryz.func19 rfl isfn_19 (Nat.le_of_ble_eq_true rfl) (fun R hR => ?_); rw [Tryz.results19] at hR; refine wg_run ?_; (simp only [Tryz.f19, go_sem])
    repeat' (first | (first | (((first | apply sp1 | apply sp2 | apply sp3 | apply sp4 | apply sp5 | apply sp6 | apply sp7) <;> intro hb) <;> (simp only [go_sem, hb])) | ((first | apply wm_done | apply wt_done | apply wg_run | refine fk ?_ ?_) <;> (simp only [go_sem]))) | (first | refine cdq ?_ (hc := hv) | refine cmq ?_ (hc := hv) | refine ctq ?_ (hc := hv)); (simp only [go_sem]))
    (refine hR _ (rat [] (hK := ⟨rfl, rfl⟩)))
  · rw [hb] at hv
    obtain ⟨e, rfl, he, hq⟩ := s1 hb
    simp only [E.okC, Bool.and_eq_true] at he
    rw [hq]
    have h1 := iThrifty e he.1
    have h2 := iThHeight e he.1
    refine fn_in ?_; refine acl_in Tryz.func19 rfl isfn_19 (Nat.le_of_ble_eq_true rfl) (fun R hR => ?_); rw [Tryz.results19] at hR; refine wg_run ?_; (simp only [Tryz.f19, go_sem])
    repeat' (first | (first | (((first | apply sp1 | apply sp2 | apply sp3 | apply sp4 | apply sp5 | apply sp6 | apply sp7) <;> intro hb) <;> (simp only [go_sem, hb])) | ((first | apply wm_done | apply wt_done | apply wg_run | refine fk ?_ ?_) <;> (simp only [go_sem]))) | (first | refine cdq ?_ (hc := hv) | refine cmq ?_ (hc := hv) | refine ctq ?_ (hc := hv)); (simp only [go_sem]) | (first | refine cdq ?_ (hc := h1) | refine cmq ?_ (hc := h1) | refine ctq ?_ (hc := h1)); (simp only [go_sem]) | (first | refine cdq ?_ (hc := h2) | refine cmq ?_ (hc := h2) | refine ctq ?_ (hc := h2)); (simp only [go_sem]))
    (refine hR _ (rat [] (hK := ⟨rfl, rfl⟩)))
theorem sTermHeight (t : Tm) (h : t.size < 100000000) : AFn Tryz.prog 21 [.agg (teC t)] (.one (.sc (.int .i64 (Tm.heightV t : Nat)))) := by
  have hv := sCastV t (by omega)
  obtain ⟨s1, s2⟩ := Tm.heightV_spec t
  cases hb : t.castV
  · rw [hb] at hv
    rw [s2 hb]
    refine fn_in ?_; refine acl_in Tryz.func21 rfl isfn_21 (Nat.le_of_ble_eq_true rfl) (fun R hR => ?_); rw [Tryz.results21] at hR; refine wg_run ?_; (simp only [Tryz.f21, go_sem])
    repeat' (first | (first | (((first | apply sp1 | apply sp2 | apply sp3 | apply sp4 | apply sp5 | apply sp6 | apply sp7) <;> intro hb) <;> (simp only [go_sem, hb])) | ((first | apply wm_done | apply wt_done | apply wg_run | refine fk ?_ ?_) <;> (simp only [go_sem]))) | (first | refine cdq ?_ (hc := hv) | refine cmq ?_ (hc := hv) | refine ctq ?_ (hc := hv)); (simp only [go_sem]))
    (refine hR _ (rat [] (hK := ⟨rfl, rfl⟩)))
  · rw [hb] at hv
    obtain ⟨e, rfl, he, hq⟩ := s1 hb
    simp only [E.okC, Bool.and_eq_true] at he
    rw [hq]
    have h2 := l7Casts e he.1
    refine fn_in ?_; refine acl_in Tryz.func21 rfl isfn_21 (Nat.le_of_ble_eq_true rfl) (fun R hR => ?_); rw [Tryz.results21] at hR; refine wg_run ?_; (simp only [Tryz.f21, go_sem])
    repeat' (first | (first | (((first | apply sp1 | apply sp2 | apply sp3 | apply sp4 | apply sp5 | apply sp6 | apply sp7) <;> intro hb) <;> (simp only [go_sem, hb])) | ((first | apply wm_done | apply wt_done | apply wg_run | refine fk ?_ ?_) <;> (simp only [go_sem]))) | (first | refine cdq ?_ (hc := hv) | refine cmq ?_ (hc := hv) | refine ctq ?_ (hc := hv)); (simp only [go_sem]) | (first | refine cdq ?_ (hc := h2) | refine cmq ?_ (hc := h2) | refine ctq ?_ (hc := h2)); (simp only [go_sem]))
    (refine hR _ (rat [] (hK := ⟨rfl, rfl⟩)))
end Go.Proofs.YtnaebafafhamjaaGreat
/- Typing of coercions, in the program and in the reference. On shadows. -/
namespace Go.Proofs.Grad
/-- a type of a form, if it is one -/
noncomputable def Ty.t? (t : Ty) : Option T := if h : t.valid = true then some ((Ty.valid_iff t).1 h).choose else none
theorem Ty.t?_ty {x : T} (h : x.depth ≤ 4) : x.ty.t? = some x := by
  have hv : x.ty.valid = true := (Ty.valid_iff _).2 ⟨x, rfl, h⟩
  simp only [Ty.t?, hv, dite_true, Option.some.injEq]
  exact T.ty_inj _ _ ((Ty.valid_iff x.ty).1 hv).choose_spec.1
theorem Ty.t?_none {t : Ty} (h : t.valid = false) : t.t? = none := by simp [Ty.t?, h]
theorem Ty.t?_some {t : Ty} {x : T} (h : t.t? = some x) : t = x.ty ∧ x.depth ≤ 4 := by
  unfold Ty.t? at h
  split at h
  · rename_i hv
    simp only [Option.some.injEq] at h
    have := ((Ty.valid_iff t).1 hv).choose_spec
    rw [h] at this
    exact ⟨this.1.symm, this.2⟩
  · cases h
end Go.Proofs.Grad
namespace Go.Proofs.YtnaebafafhamjaaGreat
open Go.RowKit Go.Proofs.Sh Go.Proofs.Grad
set_option maxRecDepth 100000
set_option maxHeartbeats 8000000
end Go.Proofs.YtnaebafafhamjaaGreat
