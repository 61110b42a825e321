/- Texts of the proof, one behind another. -/
import Derived.Test.YtchcbfbnffhifaaKV9
import Derived.Test.YtchcbfbnffhifaaKV12
set_option linter.unusedSimpArgs false
set_option linter.unusedVariables false
/- Terms: validity in the reference, on shadows. -/
namespace Go.Proofs.Ytchcbfbnffhifaa
open Go.RowKit Go.Proofs.Sh Go.Proofs.Grad
set_option maxRecDepth 100000
set_option maxHeartbeats 8000000
theorem lab_labN (n : Int) : lab n = (decide (labN n ≥ 1) && decide (labN n ≤ 99)) := by
  rw [Bool.eq_iff_iff]; unfold labN lab; simp; split <;> (try split) <;> omega
theorem l4Own (t : Tm) (h : t.kind = 14) : AFn Try.prog 136 [.agg (teC t)] (.one (.sc (.bool t.ownOk))) := by
  have ht := sValid t.type
  have hf := sValid t.frm
  have hl := l1Abs t.label
  unfold Tm.ownOk
  rw [h, lab_labN]
  simp only [Int.reduceEq, or_true, true_or, or_false, or_self, if_true, if_false, reduceIte]
  cases e1 : t.type.valid
  · rw [e1] at ht
    rw [onT_off _ (by simp [e1])]
    refine fn_in ?_; refine acl_in Try.func136 rfl isfn_136 (Nat.le_of_ble_eq_true rfl) (fun R hR => ?_); rw [Try.results136] at hR; refine wg_run ?_; (simp only [Try.f136, go_sem])
    repeat' (first | (first | (simp only [go_sem, bytes_nil]) | (((first | apply sp1 | apply sp2 | apply sp3 | apply sp4 | apply sp5 | apply sp6 | apply sp7) <;> intro hb) <;> (simp only [go_sem, hb, bytes_nil])) | ((first | apply wm_done | apply wt_done | apply wg_run | refine fk ?_ ?_) <;> (simp only [go_sem, bytes_nil]))) | (first | refine cdq ?_ (hc := ht) | refine cmq ?_ (hc := ht) | refine ctq ?_ (hc := ht)); (simp only [go_sem]) | (first | refine cdq ?_ (hc := hl) | refine cmq ?_ (hc := hl) | refine ctq ?_ (hc := hl)); (simp only [go_sem]))
    all_goals (refine hR _ (rat [] (hK := ⟨?_, rfl⟩)))
    all_goals clear hR ht hf hl
    all_goals simp_all
  · rw [e1] at ht
    cases e2 : t.frm.valid
    · rw [e2] at hf
      rw [onT_off _ (by simp [e2])]
      refine fn_in ?_; refine acl_in Try.func136 rfl isfn_136 (Nat.le_of_ble_eq_true rfl) (fun R hR => ?_); rw [Try.results136] at hR; refine wg_run ?_; (simp only [Try.f136, go_sem])
      repeat' (first | (first | (simp only [go_sem, bytes_nil]) | (((first | apply sp1 | apply sp2 | apply sp3 | apply sp4 | apply sp5 | apply sp6 | apply sp7) <;> intro hb) <;> (simp only [go_sem, hb, bytes_nil])) | ((first | apply wm_done | apply wt_done | apply wg_run | refine fk ?_ ?_) <;> (simp only [go_sem, bytes_nil]))) | (first | refine cdq ?_ (hc := ht) | refine cmq ?_ (hc := ht) | refine ctq ?_ (hc := ht)); (simp only [go_sem]) | (first | refine cdq ?_ (hc := hf) | refine cmq ?_ (hc := hf) | refine ctq ?_ (hc := hf)); (simp only [go_sem]) | (first | refine cdq ?_ (hc := hl) | refine cmq ?_ (hc := hl) | refine ctq ?_ (hc := hl)); (simp only [go_sem]))
      all_goals (refine hR _ (rat [] (hK := ⟨?_, rfl⟩)))
      all_goals clear hR ht hf hl
      all_goals simp_all
    · rw [e2] at hf
      obtain ⟨x, hx, hdx⟩ := (Ty.valid_iff _).1 e1
      obtain ⟨y, hy, hdy⟩ := (Ty.valid_iff _).1 e2
      have hc := l1Cons _ y x (Nat.lt_succ_self _)
      rw [← hx, ← hy, onT_ty _ hdy hdx]
      rw [hx, hy] at hc
      refine fn_in ?_; refine acl_in Try.func136 rfl isfn_136 (Nat.le_of_ble_eq_true rfl) (fun R hR => ?_); rw [Try.results136] at hR; refine wg_run ?_; (simp only [Try.f136, go_sem])
      repeat' (first | (first | (simp only [go_sem, bytes_nil]) | (((first | apply sp1 | apply sp2 | apply sp3 | apply sp4 | apply sp5 | apply sp6 | apply sp7) <;> intro hb) <;> (simp only [go_sem, hb, bytes_nil])) | ((first | apply wm_done | apply wt_done | apply wg_run | refine fk ?_ ?_) <;> (simp only [go_sem, bytes_nil]))) | (first | refine cdq ?_ (hc := ht) | refine cmq ?_ (hc := ht) | refine ctq ?_ (hc := ht)); (simp only [go_sem]) | (first | refine cdq ?_ (hc := hf) | refine cmq ?_ (hc := hf) | refine ctq ?_ (hc := hf)); (simp only [go_sem]) | (first | refine cdq ?_ (hc := hl) | refine cmq ?_ (hc := hl) | refine ctq ?_ (hc := hl)); (simp only [go_sem]) | (first | refine cdq ?_ (hc := hc) | refine cmq ?_ (hc := hc) | refine ctq ?_ (hc := hc)); (simp only [go_sem]))
      all_goals (refine hR _ (rat [] (hK := ⟨?_, rfl⟩)))
      all_goals clear hR ht hf hl hc
      all_goals simp_all
      all_goals (try grind)
theorem l2Count (n : Nat) (hn : n ≤ 4611686018427387904) : ∀ (t : Tm) (no : Int) (m : Nat), m ≤ 100 → t.size < n → t.shape no m = true → AFn Try.prog 100 [.agg (teC t), .one (.sc (.int .i64 (m : Nat)))] (.one (.sc (.int .i64 (t.nodes : Nat)))) := by
  induction n with
  | zero => intro t no m _ h; omega
  | succ n ih =>
    intro t no m hm h hs
    obtain ⟨m, rfl⟩ : ∃ k, m = k + 1 := by cases m with | zero => simp [Tm.shape] at hs | succ k => exact ⟨k, rfl⟩
    have hl := telen_lt t
    have hnl := t.nodes_le
    have hne := t.nodes_eq
    have hd : decide (((m + 1 : Nat) : Int) > 0) = true := by simp only [decide_eq_true_eq]; omega
    have hw : IntKind.i64.wrap (((m + 1 : Nat) : Int) - 1) = (m : Int) := by rw [IntWalk.i64_in _ (by omega)]; omega
    simp only [Tm.shape_succ, Bool.and_eq_true, List.all_eq_true] at hs
    refine fn_in ?_; refine acl_in Try.func100 rfl isfn_100 (Nat.le_of_ble_eq_true rfl) (fun R hR => ?_); rw [Try.results100] at hR; refine wg_run ?_; (simp only [Try.f100, go_sem, hd])
    refine wd_for [1, 2, 5, 6] (fun k => [.one (.sc (.int .i64 ((m + 1 : Nat) : Int))), .one (.ptr 9 0 0 0), .one (.sc (.int .i64 ((1 + Tm.nodess (t.kids.take k) : Nat) : Int))), .one (.sc (.int .i64 (k : Nat)))]) (fun k => [⟨9, 35, .mut, [teC t]⟩])
      (fun k => k ≤ t.kids.length) (fun k => t.kids.length - k) 0 (Nat.zero_le _) (hat [0] (hI := ⟨rfl, rfl⟩)) ?_
    rintro k hk G hG
    refine wg_run ?_
    (simp only [go_sem, hd])
    ((first | apply sp1 | apply sp2 | apply sp3 | apply sp4 | apply sp5 | apply sp6 | apply sp7) <;> intro hb) <;> (simp only [go_sem, hb, hd])
    · have hk1 : k < t.kids.length := by have := of_decide_eq_true hb; omega
      have hw1 := wrap_succ hk1 (by omega)
      have hle := Tm.nodess_le_take t.kids (k + 1)
      rw [Tm.nodess_take hk1] at hle
      have hw2 : IntKind.i64.wrap (((1 + Tm.nodess (t.kids.take k) : Nat) : Int) + ((teKid t.kids k).nodes : Int)) = ((1 + Tm.nodess (t.kids.take (k + 1)) : Nat) : Int) := by
        rw [Tm.nodess_take hk1, IntWalk.i64_in _ (by omega)]; omega
      have hc := ih (by omega) (teKid t.kids k) no m (by omega) (by have := teKid_lt hk1; omega) (hs.2.2 _ (by rw [teKid_eq hk1]; exact List.getElem_mem hk1))
      repeat' (first | (first | (simp only [go_sem, hd, hw, hw1, hw2, hb]) | (((first | apply sp1 | apply sp2 | apply sp3 | apply sp4 | apply sp5 | apply sp6 | apply sp7) <;> intro hb) <;> (simp only [go_sem, hb, hd, hw, hw1, hw2, hb])) | ((first | apply wm_done | apply wt_done | apply wg_run | refine fk ?_ ?_) <;> (simp only [go_sem, hd, hw, hw1, hw2, hb]))) | (first | refine cdq ?_ (hc := hc) | refine cmq ?_ (hc := hc) | refine ctq ?_ (hc := hc)); (simp only [go_sem]) | ((first | refine mxq6 [] ?_ | refine mxq5 [] ?_ | refine mxq4 [] ?_ | refine mxq3 [] ?_ | refine mxq2 [] ?_ | refine mxq1 [] ?_ | refine mxq0 [] ?_ | fail); (simp only [go_sem, hb])))
      exact hG (k + 1) _ _ (by omega) (by omega) (hat [0] (hI := ⟨rfl, rfl⟩))
    · have hk1 : t.kids.take k = t.kids := List.take_of_length_le (by have := of_decide_eq_false hb; omega)
      rw [hk1, ← hne]
      (refine hR _ (rat [] (hK := ⟨rfl, rfl⟩)))

theorem l4Shape (n : Nat) (hn : n ≤ 4611686018427387904) : ∀ (t : Tm) (m : Nat), m ≤ 100 → t.size < n → AFn Try.prog 99 [.agg (teC t), .one (.sc (.int .i64 (m : Nat)))] (.one (.sc (.bool (t.shape 13 m)))) := by
  induction n with
  | zero => intro t m _ h; omega
  | succ n ih =>
    intro t m hm h
    cases m with
    | zero =>
      have hd : decide (((0 : Nat) : Int) < 1) = true := rfl
      refine fn_in ?_; refine acl_in Try.func99 rfl isfn_99 (Nat.le_of_ble_eq_true rfl) (fun R hR => ?_); rw [Try.results99] at hR; refine wg_run ?_; (simp only [Try.f99, go_sem, hd])
      repeat' (first | (first | (simp only [go_sem, hd]) | (((first | apply sp1 | apply sp2 | apply sp3 | apply sp4 | apply sp5 | apply sp6 | apply sp7) <;> intro hb) <;> (simp only [go_sem, hb, hd])) | ((first | apply wm_done | apply wt_done | apply wg_run | refine fk ?_ ?_) <;> (simp only [go_sem, hd]))) | ((first | refine mxq6 [] ?_ | refine mxq5 [] ?_ | refine mxq4 [] ?_ | refine mxq3 [] ?_ | refine mxq2 [] ?_ | refine mxq1 [] ?_ | refine mxq0 [] ?_ | fail); (simp only [go_sem, hd])))
      (refine hR _ (rat [] (hK := ⟨rfl, rfl⟩)))
    | succ m =>
      have hl := telen_lt t
      have hd : decide (((m + 1 : Nat) : Int) < 1) = false := by simp only [decide_eq_false_iff_not]; omega
      have hw : IntKind.i64.wrap (((m + 1 : Nat) : Int) - 1) = (m : Int) := by rw [IntWalk.i64_in _ (by omega)]; omega
      have hk := l2Kids t.kind
      by_cases hlen : opN t.kind = (t.kids.length : Int)
      · have hb0 : (opN t.kind == (t.kids.length : Int)) = true := by simp [hlen]
        have hkd : 1 ≤ t.kind ∧ t.kind ≤ 14 := by
          rcases opN_cases t.kind with h | h
          · exact h
          · rw [h] at hlen; omega
        cases hc13 : (t.kind == 13)
        · obtain ⟨f, hf14, ho⟩ : ∃ b : Bool, (t.kind == 14) = b ∧ (match b with | true => AFn Try.prog 136 [.agg (teC t)] (.one (.sc (.bool t.ownOk))) | false => AFn Try.prog 137 [.agg (teC t)] (.one (.sc (.bool t.ownOk)))) := by
            cases hc14 : (t.kind == 14)
            · exact ⟨false, rfl, l2Own t hkd.1 (by rw [beq_eq_false_iff_ne] at hc14; omega)⟩
            · exact ⟨true, rfl, l4Own t (by simpa using hc14)⟩
          cases hok : t.ownOk
          · rw [hok] at ho
            have he : t.shape 13 (m + 1) = false := by rw [Tm.shape_succ, Tm.nodeOk_own, hok]; simp
            rw [he]
            cases f
            all_goals
              simp only [] at ho
              refine fn_in ?_; refine acl_in Try.func99 rfl isfn_99 (Nat.le_of_ble_eq_true rfl) (fun R hR => ?_); rw [Try.results99] at hR; refine wg_run ?_; (simp only [Try.f99, go_sem, hd])
              repeat' (first | (first | (simp only [go_sem, hd, hb0, hc13, hf14, int_bne]) | (((first | apply sp1 | apply sp2 | apply sp3 | apply sp4 | apply sp5 | apply sp6 | apply sp7) <;> intro hb) <;> (simp only [go_sem, hb, hd, hb0, hc13, hf14, int_bne])) | ((first | apply wm_done | apply wt_done | apply wg_run | refine fk ?_ ?_) <;> (simp only [go_sem, hd, hb0, hc13, hf14, int_bne]))) | ((first | refine mxq6 [] ?_ | refine mxq5 [] ?_ | refine mxq4 [] ?_ | refine mxq3 [] ?_ | refine mxq2 [] ?_ | refine mxq1 [] ?_ | refine mxq0 [] ?_ | fail); (simp only [go_sem, hd, hb0, hc13, hf14, int_bne])) | (first | refine cdq ?_ (hc := hk) | refine cmq ?_ (hc := hk) | refine ctq ?_ (hc := hk)); (simp only [go_sem]) | (first | refine cdq ?_ (hc := ho) | refine cmq ?_ (hc := ho) | refine ctq ?_ (hc := ho)); (simp only [go_sem]))
              (refine hR _ (rat [] (hK := ⟨rfl, rfl⟩)))
          · rw [hok] at ho
            have he : t.shape 13 (m + 1) = t.kids.all (Tm.shape 13 m) := by rw [Tm.shape_succ, Tm.nodeOk_own, hok, hb0, hc13]; simp
            rw [he]
            cases f
            all_goals
              simp only [] at ho
              refine fn_in ?_; refine acl_in Try.func99 rfl isfn_99 (Nat.le_of_ble_eq_true rfl) (fun R hR => ?_); rw [Try.results99] at hR; refine wg_run ?_; (simp only [Try.f99, go_sem, hd])
              repeat' (first | (first | (simp only [go_sem, hd, hb0, hc13, hf14, int_bne]) | (((first | apply sp1 | apply sp2 | apply sp3 | apply sp4 | apply sp5 | apply sp6 | apply sp7) <;> intro hb) <;> (simp only [go_sem, hb, hd, hb0, hc13, hf14, int_bne])) | ((first | apply wm_done | apply wt_done | apply wg_run | refine fk ?_ ?_) <;> (simp only [go_sem, hd, hb0, hc13, hf14, int_bne]))) | ((first | refine mxq6 [] ?_ | refine mxq5 [] ?_ | refine mxq4 [] ?_ | refine mxq3 [] ?_ | refine mxq2 [] ?_ | refine mxq1 [] ?_ | refine mxq0 [] ?_ | fail); (simp only [go_sem, hd, hb0, hc13, hf14, int_bne])) | (first | refine cdq ?_ (hc := hk) | refine cmq ?_ (hc := hk) | refine ctq ?_ (hc := hk)); (simp only [go_sem]) | (first | refine cdq ?_ (hc := ho) | refine cmq ?_ (hc := ho) | refine ctq ?_ (hc := ho)); (simp only [go_sem]))
              refine wd_for [1, 2, 5] (fun k => [.one (.sc (.int .i64 ((m + 1 : Nat) : Int))), .one (.ptr 9 0 0 0), .one (.sc (.int .i64 (k : Nat)))]) (fun k => [⟨9, 35, .mut, [teC t]⟩])
                (fun k => k ≤ t.kids.length ∧ (t.kids.drop k).all (Tm.shape 13 m) = t.kids.all (Tm.shape 13 m)) (fun k => t.kids.length - k) 0 ⟨Nat.zero_le _, rfl⟩ (hat [0] (hI := ⟨rfl, rfl⟩)) ?_
              rintro k ⟨hk0, hs⟩ G hG
              refine wg_run ?_
              (simp only [go_sem])
              ((first | apply sp1 | apply sp2 | apply sp3 | apply sp4 | apply sp5 | apply sp6 | apply sp7) <;> intro hb) <;> (simp only [go_sem, hb, hw])
              · have hk1 : k < t.kids.length := by have := of_decide_eq_true hb; omega
                have hw1 := wrap_succ hk1 (by omega)
                rw [tedrop_kid hk1, List.all_cons] at hs
                have hc := ih (by omega) (teKid t.kids k) m (by omega) (by have := teKid_lt hk1; omega)
                repeat' (first | (first | (simp only [go_sem, hw1, hw, hb]) | (((first | apply sp1 | apply sp2 | apply sp3 | apply sp4 | apply sp5 | apply sp6 | apply sp7) <;> intro hb) <;> (simp only [go_sem, hb, hw1, hw, hb])) | ((first | apply wm_done | apply wt_done | apply wg_run | refine fk ?_ ?_) <;> (simp only [go_sem, hw1, hw, hb]))) | (first | refine cdq ?_ (hc := hc) | refine cmq ?_ (hc := hc) | refine ctq ?_ (hc := hc)); (simp only [go_sem]))
                · exact hG (k + 1) _ _ ⟨by omega, by simpa [hb] using hs⟩ (by omega) (hat [0] (hI := ⟨rfl, rfl⟩))
                · (refine hR _ (rat [] (hK := ⟨?_, rfl⟩)))
                  simpa [hb] using hs
              · have hk1 : ¬ k < t.kids.length := by have := of_decide_eq_false hb; omega
                rw [List.drop_eq_nil_of_le (by omega)] at hs
                (refine hR _ (rat [] (hK := ⟨?_, rfl⟩)))
                simpa using hs
        · have he : t.shape 13 (m + 1) = false := by rw [Tm.shape_succ, hc13]; simp
          rw [he]
          refine fn_in ?_; refine acl_in Try.func99 rfl isfn_99 (Nat.le_of_ble_eq_true rfl) (fun R hR => ?_); rw [Try.results99] at hR; refine wg_run ?_; (simp only [Try.f99, go_sem, hd])
          repeat' (first | (first | (simp only [go_sem, hd, hb0, hc13, int_bne]) | (((first | apply sp1 | apply sp2 | apply sp3 | apply sp4 | apply sp5 | apply sp6 | apply sp7) <;> intro hb) <;> (simp only [go_sem, hb, hd, hb0, hc13, int_bne])) | ((first | apply wm_done | apply wt_done | apply wg_run | refine fk ?_ ?_) <;> (simp only [go_sem, hd, hb0, hc13, int_bne]))) | ((first | refine mxq6 [] ?_ | refine mxq5 [] ?_ | refine mxq4 [] ?_ | refine mxq3 [] ?_ | refine mxq2 [] ?_ | refine mxq1 [] ?_ | refine mxq0 [] ?_ | fail); (simp only [go_sem, hd, hb0, hc13, int_bne])) | (first | refine cdq ?_ (hc := hk) | refine cmq ?_ (hc := hk) | refine ctq ?_ (hc := hk)); (simp only [go_sem]))
          (refine hR _ (rat [] (hK := ⟨rfl, rfl⟩)))
      · have hb0 : (opN t.kind == (t.kids.length : Int)) = false := by simp [hlen]
        have he : t.shape 13 (m + 1) = false := by rw [Tm.shape_succ, Tm.nodeOk_own, hb0]; simp
        rw [he]
        refine fn_in ?_; refine acl_in Try.func99 rfl isfn_99 (Nat.le_of_ble_eq_true rfl) (fun R hR => ?_); rw [Try.results99] at hR; refine wg_run ?_; (simp only [Try.f99, go_sem, hd])
        repeat' (first | (first | (simp only [go_sem, hd, hb0, int_bne]) | (((first | apply sp1 | apply sp2 | apply sp3 | apply sp4 | apply sp5 | apply sp6 | apply sp7) <;> intro hb) <;> (simp only [go_sem, hb, hd, hb0, int_bne])) | ((first | apply wm_done | apply wt_done | apply wg_run | refine fk ?_ ?_) <;> (simp only [go_sem, hd, hb0, int_bne]))) | ((first | refine mxq6 [] ?_ | refine mxq5 [] ?_ | refine mxq4 [] ?_ | refine mxq3 [] ?_ | refine mxq2 [] ?_ | refine mxq1 [] ?_ | refine mxq0 [] ?_ | fail); (simp only [go_sem, hd, hb0, int_bne])) | (first | refine cdq ?_ (hc := hk) | refine cmq ?_ (hc := hk) | refine ctq ?_ (hc := hk)); (simp only [go_sem]))
        (refine hR _ (rat [] (hK := ⟨rfl, rfl⟩)))
theorem sCastV (t : Tm) (h : t.size < 4611686018427387904) : AFn Try.prog 52 [.agg (teC t)] (.one (.sc (.bool t.castV))) := by
  have h1 := l4Shape _ (Nat.le_refl _) t 40 (by omega) h
  unfold Tm.castV
  cases hs : t.shape 13 40
  · rw [hs] at h1
    refine fn_in ?_; refine acl_in Try.func52 rfl isfn_52 (Nat.le_of_ble_eq_true rfl) (fun R hR => ?_); rw [Try.results52] at hR; refine wg_run ?_; (simp only [Try.f52, go_sem])
    repeat' (first | (first | (((first | apply sp1 | apply sp2 | apply sp3 | apply sp4 | apply sp5 | apply sp6 | apply sp7) <;> intro hb) <;> (simp only [go_sem, hb])) | ((first | apply wm_done | apply wt_done | apply wg_run | refine fk ?_ ?_) <;> (simp only [go_sem]))) | (first | refine cdq ?_ (hc := h1) | refine cmq ?_ (hc := h1) | refine ctq ?_ (hc := h1)); (simp only [go_sem]))
    (refine hR _ (rat [] (hK := ⟨rfl, rfl⟩)))
  · rw [hs] at h1
    have h2 := l2Count _ (Nat.le_refl _) t 13 40 (by omega) h hs
    refine fn_in ?_; refine acl_in Try.func52 rfl isfn_52 (Nat.le_of_ble_eq_true rfl) (fun R hR => ?_); rw [Try.results52] at hR; refine wg_run ?_; (simp only [Try.f52, go_sem])
    repeat' (first | (first | (((first | apply sp1 | apply sp2 | apply sp3 | apply sp4 | apply sp5 | apply sp6 | apply sp7) <;> intro hb) <;> (simp only [go_sem, hb])) | ((first | apply wm_done | apply wt_done | apply wg_run | refine fk ?_ ?_) <;> (simp only [go_sem]))) | (first | refine cdq ?_ (hc := h1) | refine cmq ?_ (hc := h1) | refine ctq ?_ (hc := h1)); (simp only [go_sem]) | (first | refine cdq ?_ (hc := h2) | refine cmq ?_ (hc := h2) | refine ctq ?_ (hc := h2)); (simp only [go_sem]))
    (refine hR _ (rat [] (hK := ⟨?_, rfl⟩)))
    rw [Bool.true_and]
    have : decide ((t.nodes : Int) ≤ 200) = decide (t.nodes ≤ 200) := by rw [Bool.eq_iff_iff]; simp; omega
    rw [this]
end Go.Proofs.Ytchcbfbnffhifaa
/- Terms: the casts of a term, on shadows. -/
namespace Go.Proofs.Grad
def ownCast (t : Tm) : List Tm := match t.kind == 14 with | true => [t] | false => []
mutual
def Tm.castsL : Tm → List Tm | .mk k n m t f b l => ownCast (.mk k n m t f b l) ++ Tm.castsLs l
def Tm.castsLs : List Tm → List Tm | [] => [] | t :: l => t.castsL ++ Tm.castsLs l
end
theorem Tm.castsL_eq (t : Tm) : t.castsL = ownCast t ++ Tm.castsLs t.kids := by cases t; rfl
theorem ownCast_len (t : Tm) : (ownCast t).length ≤ 1 := by unfold ownCast; split <;> simp
mutual
theorem Tm.castsL_len : ∀ t : Tm, t.castsL.length ≤ t.nodes
  | .mk k n m t f b l => by have := Tm.castsLs_len l; have := ownCast_len (.mk k n m t f b l); simp only [Tm.castsL, Tm.nodes, List.length_append]; omega
theorem Tm.castsLs_len : ∀ l : List Tm, (Tm.castsLs l).length ≤ Tm.nodess l
  | [] => by simp [Tm.castsLs]
  | t :: l => by have := Tm.castsL_len t; have := Tm.castsLs_len l; simp only [Tm.castsLs, Tm.nodess, List.length_append]; omega
end
theorem Tm.castsLs_append (l m : List Tm) : Tm.castsLs (l ++ m) = Tm.castsLs l ++ Tm.castsLs m := by
  induction l with
  | nil => rfl
  | cons t l ih => simp [Tm.castsLs, ih]
theorem Tm.castsLs_take {l : List Tm} {k : Nat} (h : k < l.length) : Tm.castsLs (l.take (k + 1)) = Tm.castsLs (l.take k) ++ (Sh.teKid l k).castsL := by
  rw [Sh.tetake_kid h, Tm.castsLs_append]; simp [Tm.castsLs]
theorem Tm.castsLs_take_len (l : List Tm) (k : Nat) : (Tm.castsLs (l.take k)).length ≤ Tm.nodess l := Nat.le_trans (Tm.castsLs_len _) (Tm.nodess_le_take l k)
end Go.Proofs.Grad
namespace Go.Proofs.Sh
attribute [go_sem] List.getD_cons_zero List.getD_cons_succ List.getD_nil
end Go.Proofs.Sh
namespace Go.Proofs.Ytchcbfbnffhifaa
open Go.RowKit Go.Proofs.Sh Go.Proofs.Grad
set_option maxRecDepth 100000
set_option maxHeartbeats 8000000
theorem iCasts (n : Nat) (hn : n ≤ 274877906944) : ∀ t : Tm, t.size < n → AFn Try.prog 55 [.agg (teC t)] (.one (.sl (teR t.castsL))) := by
  induction n with
  | zero => intro t h; omega
  | succ n ih =>
    intro t h
    have hl := telen_lt t
    have hnl := t.nodes_le
    have hne := t.nodes_eq
    have e0 : ownCast t = (match t.kind == 14 with | true => [t] | false => []) := rfl
    cases hty : (t.kind == 14)
    all_goals
      rw [hty] at e0
      simp only [] at e0
      refine fn_in ?_; refine acl_in Try.func55 rfl isfn_55 (Nat.le_of_ble_eq_true rfl) (fun R hR => ?_); rw [Try.results55] at hR; refine wg_run ?_; (simp only [Try.f55, go_sem])
      repeat' (first | (simp only [go_sem, hty]) | (((first | apply sp1 | apply sp2 | apply sp3 | apply sp4 | apply sp5 | apply sp6 | apply sp7) <;> intro hb) <;> (simp only [go_sem, hb, hty])) | ((first | apply wm_done | apply wt_done | apply wg_run | refine fk ?_ ?_) <;> (simp only [go_sem, hty])))
      first
        | refine wd_for [3, 14, 15, 16] (fun (x : Nat × List Tm) => [.one (match x.2 with | [] => .sc (.slice none 0 0) | a :: l => .row 9 0 (l.length + 1)), .one (.sl (teR t.kids)), .one (.sc (.int .i64 t.kids.length)), .one (.sc (.int .i64 (x.1 : Nat)))])
            (fun x => match x.2 with | [] => [] | a :: l => [⟨9, 35, .mut, teR (a :: l)⟩])
            (fun x => x.1 ≤ t.kids.length ∧ x.2 = ownCast t ++ Tm.castsLs (t.kids.take x.1)) (fun x => t.kids.length - x.1) (0, []) ⟨Nat.zero_le _, by rw [e0]; rfl⟩ (hat [] (hI := ⟨rfl, rfl⟩)) ?_
        | refine wd_for [3, 14, 15, 16] (fun (x : Nat × List Tm) => [.one (match x.2 with | [] => .sc (.slice none 0 0) | a :: l => .row 9 0 (l.length + 1)), .one (.sl (teR t.kids)), .one (.sc (.int .i64 t.kids.length)), .one (.sc (.int .i64 (x.1 : Nat)))])
            (fun x => match x.2 with | [] => [] | a :: l => [⟨9, 35, .mut, teR (a :: l)⟩])
            (fun x => x.1 ≤ t.kids.length ∧ x.2 = ownCast t ++ Tm.castsLs (t.kids.take x.1)) (fun x => t.kids.length - x.1) (0, [t]) ⟨Nat.zero_le _, by rw [e0]; rfl⟩ (hat [2] (hI := ⟨rfl, rfl⟩)) ?_
      rintro ⟨k, acc⟩ ⟨hk, hacc⟩ G hG
      simp only [] at hk hacc hG
      have hal : acc.length ≤ 1 + Tm.nodess t.kids := by
        have := ownCast_len t; have := Tm.castsLs_take_len t.kids k
        rw [hacc, List.length_append]; omega
      rcases acc with _ | ⟨a, acc⟩
      all_goals
        refine wg_run ?_
        (simp only [go_sem])
        ((first | apply sp1 | apply sp2 | apply sp3 | apply sp4 | apply sp5 | apply sp6 | apply sp7) <;> intro hb) <;> (simp only [go_sem, hb])
        · have hk1 : k < t.kids.length := by have := of_decide_eq_true hb; omega
          have hw1 := wrap_succ hk1 (by omega)
          have hc := ih (by omega) (teKid t.kids k) (by have := teKid_lt hk1; omega)
          have hkl := Tm.castsL_len (teKid t.kids k)
          have hkn := Tm.nodess_le_take t.kids (k + 1)
          rw [Tm.nodess_take hk1] at hkn
          have hnx : ownCast t ++ Tm.castsLs (t.kids.take (k + 1)) = ownCast t ++ Tm.castsLs (t.kids.take k) ++ (teKid t.kids k).castsL := by rw [Tm.castsLs_take hk1, List.append_assoc]
          rw [← hacc] at hnx
          cases hkt : (teKid t.kids k).castsL with
          | nil =>
            rw [hkt] at hc hnx
            repeat' (first | (first | (simp only [go_sem, hw1, hb]) | (((first | apply sp1 | apply sp2 | apply sp3 | apply sp4 | apply sp5 | apply sp6 | apply sp7) <;> intro hb) <;> (simp only [go_sem, hb, hw1, hb])) | ((first | apply wm_done | apply wt_done | apply wg_run | refine fk ?_ ?_) <;> (simp only [go_sem, hw1, hb]))) | (first | refine cdq ?_ (hc := hc) | refine cmq ?_ (hc := hc) | refine ctq ?_ (hc := hc)); (simp only [go_sem]))
            rw [List.append_nil] at hnx
            first
              | exact hG (k + 1, []) _ _ ⟨by omega, hnx.symm⟩ (by simp only []; omega) (hat [] (hI := ⟨rfl, rfl⟩))
              | exact hG (k + 1, a :: acc) _ _ ⟨by omega, hnx.symm⟩ (by simp only []; omega) (hat [0] (hI := ⟨rfl, rfl⟩))
          | cons b m =>
            rw [hkt] at hc hnx hkl
            simp only [List.length_cons] at hkl hal
            have hcap1 : (m.length + 1) * 128 ≤ 140737488355328 := by omega
            first
              | (have hcap2 : (acc.length + 1 + (m.length + 1)) * 128 ≤ 140737488355328 := by omega
                 repeat' (first | (first | (simp only [go_sem, hw1, hb, hcap1, hcap2]) | (((first | apply sp1 | apply sp2 | apply sp3 | apply sp4 | apply sp5 | apply sp6 | apply sp7) <;> intro hb) <;> (simp only [go_sem, hb, hw1, hb, hcap1, hcap2])) | ((first | apply wm_done | apply wt_done | apply wg_run | refine fk ?_ ?_) <;> (simp only [go_sem, hw1, hb, hcap1, hcap2]))) | (first | refine cdq ?_ (hc := hc) | refine cmq ?_ (hc := hc) | refine ctq ?_ (hc := hc)); (simp only [go_sem]))
                 refine hG (k + 1, a :: acc ++ b :: m) _ _ ⟨by omega, hnx.symm⟩ (by simp only []; omega) (hat [2] (hI := ⟨?_, ?_⟩))
                 · simp only [List.cons_append, List.length_append, List.length_cons]
                   rw [show acc.length + 1 + (m.length + 1) = acc.length + (m.length + 1) + 1 by omega]
                 · simp only [List.cons_append, teR, teR_append])
              | (repeat' (first | (first | (simp only [go_sem, hw1, hb, hcap1]) | (((first | apply sp1 | apply sp2 | apply sp3 | apply sp4 | apply sp5 | apply sp6 | apply sp7) <;> intro hb) <;> (simp only [go_sem, hb, hw1, hb, hcap1])) | ((first | apply wm_done | apply wt_done | apply wg_run | refine fk ?_ ?_) <;> (simp only [go_sem, hw1, hb, hcap1]))) | (first | refine cdq ?_ (hc := hc) | refine cmq ?_ (hc := hc) | refine ctq ?_ (hc := hc)); (simp only [go_sem]))
                 refine hG (k + 1, b :: m) _ _ ⟨by omega, hnx.symm⟩ (by simp only []; omega) (hat [1] (hI := ⟨rfl, rfl⟩)))
        · have hk1 : t.kids.take k = t.kids := List.take_of_length_le (by have := of_decide_eq_false hb; omega)
          rw [hk1, ← Tm.castsL_eq] at hacc
          (refine hR _ (rat [] (hK := ⟨?_, rfl⟩)))
          rw [← hacc]; rfl

theorem l11Casts (n : Nat) (hn : n ≤ 274877906944) : ∀ t : Tm, t.size < n → AFn Try.prog 53 [.agg (teC t)] (.one (.sc (.int .i64 (t.castsL.length : Nat)))) := by
  induction n with
  | zero => intro t h; omega
  | succ n ih =>
    intro t h
    have hl := telen_lt t
    have hnl := t.nodes_le
    have hne := t.nodes_eq
    have ht : t.castsL.length = (ownCast t).length + (Tm.castsLs t.kids).length := by rw [Tm.castsL_eq, List.length_append]
    have e0 : ownCast t = (match t.kind == 14 with | true => [t] | false => []) := rfl
    have hol := ownCast_len t
    cases hty : (t.kind == 14)
    all_goals
      rw [hty] at e0
      simp only [] at e0
      refine fn_in ?_; refine acl_in Try.func53 rfl isfn_53 (Nat.le_of_ble_eq_true rfl) (fun R hR => ?_); rw [Try.results53] at hR; refine wg_run ?_; (simp only [Try.f53, go_sem])
      repeat' (first | (simp only [go_sem, hty]) | (((first | apply sp1 | apply sp2 | apply sp3 | apply sp4 | apply sp5 | apply sp6 | apply sp7) <;> intro hb) <;> (simp only [go_sem, hb, hty])) | ((first | apply wm_done | apply wt_done | apply wg_run | refine fk ?_ ?_) <;> (simp only [go_sem, hty])))
      refine wd_for [1, 3, 4] (fun k => [.one (.ptr 9 0 0 0), .one (.sc (.int .i64 (((ownCast t).length + (Tm.castsLs (t.kids.take k)).length : Nat) : Int))), .one (.sc (.int .i64 (k : Nat)))]) (fun k => [⟨9, 35, .mut, [teC t]⟩])
        (fun k => k ≤ t.kids.length) (fun k => t.kids.length - k) 0 (Nat.zero_le _) (hat [0] (hI := ⟨by rw [e0]; rfl, rfl⟩)) ?_
      rintro k hk G hG
      refine wg_run ?_
      (simp only [go_sem])
      ((first | apply sp1 | apply sp2 | apply sp3 | apply sp4 | apply sp5 | apply sp6 | apply sp7) <;> intro hb) <;> (simp only [go_sem, hb])
      · have hk1 : k < t.kids.length := by have := of_decide_eq_true hb; omega
        have hw1 := wrap_succ hk1 (by omega)
        have hle := Tm.castsLs_take_len t.kids (k + 1)
        have htk := Tm.castsLs_take hk1
        have htl : (Tm.castsLs (t.kids.take (k + 1))).length = (Tm.castsLs (t.kids.take k)).length + (teKid t.kids k).castsL.length := by rw [htk, List.length_append]
        have hw2 : IntKind.i64.wrap ((((ownCast t).length + (Tm.castsLs (t.kids.take k)).length : Nat) : Int) + ((teKid t.kids k).castsL.length : Int)) = (((ownCast t).length + (Tm.castsLs (t.kids.take (k + 1))).length : Nat) : Int) := by
          rw [IntWalk.i64_in _ (by omega)]; omega
        have hc := ih (by omega) (teKid t.kids k) (by have := teKid_lt hk1; omega)
        repeat' (first | (first | (simp only [go_sem, hw1, hw2, hb]) | (((first | apply sp1 | apply sp2 | apply sp3 | apply sp4 | apply sp5 | apply sp6 | apply sp7) <;> intro hb) <;> (simp only [go_sem, hb, hw1, hw2, hb])) | ((first | apply wm_done | apply wt_done | apply wg_run | refine fk ?_ ?_) <;> (simp only [go_sem, hw1, hw2, hb]))) | (first | refine cdq ?_ (hc := hc) | refine cmq ?_ (hc := hc) | refine ctq ?_ (hc := hc)); (simp only [go_sem]) | ((first | refine mxq6 [] ?_ | refine mxq5 [] ?_ | refine mxq4 [] ?_ | refine mxq3 [] ?_ | refine mxq2 [] ?_ | refine mxq1 [] ?_ | refine mxq0 [] ?_ | fail); (simp only [go_sem, hb])))
        exact hG (k + 1) _ _ (by omega) (by omega) (hat [0] (hI := ⟨rfl, rfl⟩))
      · have hk1 : t.kids.take k = t.kids := List.take_of_length_le (by have := of_decide_eq_false hb; omega)
        rw [hk1, ← ht]
        (refine hR _ (rat [] (hK := ⟨rfl, rfl⟩)))
end Go.Proofs.Ytchcbfbnffhifaa
/- Terms: copies, and terms mapped; on shadows. -/
namespace Go.Proofs.Sh
open Go.Proofs.Grad
@[go_sem] theorem teC_apps (t : Tm) (l : List C) : teC t ++ l = .sc (.int .i64 (t.kind)) :: .sc (.string (t.name)) :: .sc (.int .i64 (t.num)) :: .sc (.int .i64 (t.type).kind) :: .sl (tyR (t.type).kids) :: .sc (.int .i64 (t.frm).kind) :: .sl (tyR (t.frm).kids) :: .sc (.int .i64 (t.label)) :: .sl (teR (t.kids)) :: l := by rw [teC_eq]; rfl
attribute [go_sem] List.getD_cons_zero List.getD_cons_succ List.getD_nil
/-- the cells of a node whose operands' slice is c -/
def teK (t : Tm) (c : C) : List C := [.sc (.int .i64 (t.kind)), .sc (.string (t.name)), .sc (.int .i64 (t.num)), .sc (.int .i64 (t.type).kind), .sl (tyR (t.type).kids), .sc (.int .i64 (t.frm).kind), .sl (tyR (t.frm).kids), .sc (.int .i64 (t.label)), c]
end Go.Proofs.Sh
namespace Go.Proofs.Ytchcbfbnffhifaa
open Go.RowKit Go.Proofs.Sh Go.Proofs.Grad
set_option maxRecDepth 100000
set_option maxHeartbeats 8000000
theorem l2Copy (n : Nat) (hn : n ≤ 274877906944) : ∀ t : Tm, t.size < n → AFn Try.prog 73 [.agg (teC t)] (.agg (teC t)) := by
  induction n with
  | zero => intro t h; omega
  | succ n ih =>
    intro t h
    have hl := telen_lt t
    have h1 := l1Copy 274877906944 (by omega) t.type (Nat.lt_trans (by cases t; simp only [Tm.size, Tm.type]; omega : t.type.size < t.size) (by omega))
    have h2 := l1Copy 274877906944 (by omega) t.frm (Nat.lt_trans (by cases t; simp only [Tm.size, Tm.frm]; omega : t.frm.size < t.size) (by omega))
    refine fn_in ?_; refine acl_in Try.func73 rfl isfn_73 (Nat.le_of_ble_eq_true rfl) (fun R hR => ?_); rw [Try.results73] at hR; refine wg_run ?_; (simp only [Try.f73, go_sem])
    repeat' (first | (first | (((first | apply sp1 | apply sp2 | apply sp3 | apply sp4 | apply sp5 | apply sp6 | apply sp7) <;> intro hb) <;> (simp only [go_sem, hb])) | ((first | apply wm_done | apply wt_done | apply wg_run | refine fk ?_ ?_) <;> (simp only [go_sem]))) | (first | refine cdq ?_ (hc := h1) | refine cmq ?_ (hc := h1) | refine ctq ?_ (hc := h1)); (simp only [go_sem]) | (first | refine cdq ?_ (hc := h2) | refine cmq ?_ (hc := h2) | refine ctq ?_ (hc := h2)); (simp only [go_sem]))
    refine wd_for [1, 2, 3, 4] (fun k => [.one (.ptr 9 0 0 0), .one (.ptr 9 1 0 0), .one (.ptr 9 2 0 0), .one (.sc (.int .i64 (k : Nat)))])
      (fun k => [⟨9, 35, .mut, [teC t]⟩, ⟨9, 35, .mut, [[.sc (.int .i64 0), .sc (.string { data := { toList := [] } }), .sc (.int .i64 0), .sc (.int .i64 0), .sc (.slice none 0 0), .sc (.int .i64 0), .sc (.slice none 0 0), .sc (.int .i64 0), .sc (.slice none 0 0)]]⟩] ++ (match k with | 0 => [⟨9, 35, .mut, [teK t (.sc (.slice none 0 0))]⟩] | k + 1 => [⟨9, 35, .mut, [teK t (.row 9 3 (k + 1))]⟩, ⟨9, 35, .mut, teR (t.kids.take (k + 1))⟩]))
      (fun k => k ≤ t.kids.length) (fun k => t.kids.length - k) 0 (Nat.zero_le _) (hat [0, 1, 2] (hI := ⟨rfl, rfl⟩)) ?_
    rintro (_ | k) hk G hG
    · refine wg_run ?_
      simp only [teK] at hG ⊢
      (simp only [go_sem])
      ((first | apply sp1 | apply sp2 | apply sp3 | apply sp4 | apply sp5 | apply sp6 | apply sp7) <;> intro hb) <;> (simp only [go_sem, hb])
      · have hk1 : 0 < t.kids.length := by have := of_decide_eq_true hb; omega
        have hc := ih (by omega) (teKid t.kids 0) (by have := teKid_lt hk1; omega)
        repeat' (first | (first | (simp only [go_sem, hb]) | (((first | apply sp1 | apply sp2 | apply sp3 | apply sp4 | apply sp5 | apply sp6 | apply sp7) <;> intro hb) <;> (simp only [go_sem, hb, hb])) | ((first | apply wm_done | apply wt_done | apply wg_run | refine fk ?_ ?_) <;> (simp only [go_sem, hb]))) | ((first | refine mxq6 [] ?_ | refine mxq5 [] ?_ | refine mxq4 [] ?_ | refine mxq3 [] ?_ | refine mxq2 [] ?_ | refine mxq1 [] ?_ | refine mxq0 [] ?_ | fail); (simp only [go_sem, hb])) | (first | refine cdq ?_ (hc := hc) | refine cmq ?_ (hc := hc) | refine ctq ?_ (hc := hc)); (simp only [go_sem]))
        refine hG 1 _ _ (by omega) (by omega) (hat [0, 1, 2, 4] (hI := ⟨rfl, ?_⟩))
        simp only [teR_take hk1, List.take_zero, teR, List.nil_append, List.cons_append]
      · have hk1 : t.kids = [] := by have := of_decide_eq_false hb; exact List.eq_nil_of_length_eq_zero (by omega)
        (refine hR _ (rat [] (hK := ⟨?_, rfl⟩)))
        rw [teC_eq, hk1]; rfl
    · refine wg_run ?_
      simp only [teK] at hG ⊢
      have hw1 : k + 1 < t.kids.length → IntKind.i64.wrap (((k + 1 : Nat) : Int) + 1) = ((k + 1 + 1 : Nat) : Int) := fun h => wrap_succ h (by omega)
      (simp only [go_sem])
      ((first | apply sp1 | apply sp2 | apply sp3 | apply sp4 | apply sp5 | apply sp6 | apply sp7) <;> intro hb) <;> (simp only [go_sem, hb])
      · have hk1 : k + 1 < t.kids.length := by have := of_decide_eq_true hb; omega
        have hw1 := hw1 hk1
        have hlen : (t.kids.take (k + 1)).length = k + 1 := by rw [List.length_take]; omega
        have hcap : (k + 1 + 1) * 128 ≤ 140737488355328 := by omega
        have hc := ih (by omega) (teKid t.kids (k + 1)) (by have := teKid_lt hk1; omega)
        repeat' (first | (first | (simp only [go_sem, hb, hlen, hcap, hw1]) | (((first | apply sp1 | apply sp2 | apply sp3 | apply sp4 | apply sp5 | apply sp6 | apply sp7) <;> intro hb) <;> (simp only [go_sem, hb, hb, hlen, hcap, hw1])) | ((first | apply wm_done | apply wt_done | apply wg_run | refine fk ?_ ?_) <;> (simp only [go_sem, hb, hlen, hcap, hw1]))) | ((first | refine mxq6 [] ?_ | refine mxq5 [] ?_ | refine mxq4 [] ?_ | refine mxq3 [] ?_ | refine mxq2 [] ?_ | refine mxq1 [] ?_ | refine mxq0 [] ?_ | fail); (simp only [go_sem, hb, hlen, hcap, hw1])) | (first | refine cdq ?_ (hc := hc) | refine cmq ?_ (hc := hc) | refine ctq ?_ (hc := hc)); (simp only [go_sem]))
        refine hG (k + 2) _ _ (by omega) (by omega) (hat [0, 1, 2, 5] (hI := ⟨rfl, ?_⟩))
        rw [← teR_take hk1]
        rfl
      · have hk1 : t.kids.take (k + 1) = t.kids := by have := of_decide_eq_false hb; exact List.take_of_length_le (by omega)
        have hlen : t.kids.length = k + 1 := by have := of_decide_eq_false hb; omega
        rw [hk1]
        (refine hR _ (ret_at [] (by (simp only [go_sem, hlen]); first | done | rfl) (by (simp only [go_sem, hlen]); first | done | rfl) ⟨?_, rfl⟩))
        rw [teC_eq]
/-- a copy, its uppermost slice its own -/
def OwnTm (t : Tm) (r : AV) (H' : List Blk) : Prop := (t.kids = [] ∧ r = .agg (teK t (.sc (.slice none 0 0))) ∧ H' = []) ∨ (0 < t.kids.length ∧ r = .agg (teK t (.row 9 0 t.kids.length)) ∧ H' = [⟨9, 35, .mut, teR t.kids⟩])
theorem l2CopyO (n : Nat) (hn : n ≤ 274877906944) (t : Tm) (h : t.size < n) : ACl Try.prog 73 [.agg (teC t)] [] (OwnTm t) := by
  have ih := l2Copy n hn
  have hl := telen_lt t
  have h1 := l1Copy 274877906944 (by omega) t.type (Nat.lt_trans (by cases t; simp only [Tm.size, Tm.type]; omega : t.type.size < t.size) (by omega))
  have h2 := l1Copy 274877906944 (by omega) t.frm (Nat.lt_trans (by cases t; simp only [Tm.size, Tm.frm]; omega : t.frm.size < t.size) (by omega))
  refine acl_in Try.func73 rfl isfn_73 (Nat.le_of_ble_eq_true rfl) (fun R hR => ?_); rw [Try.results73] at hR; refine wg_run ?_; (simp only [Try.f73, go_sem])
  repeat' (first | (first | (((first | apply sp1 | apply sp2 | apply sp3 | apply sp4 | apply sp5 | apply sp6 | apply sp7) <;> intro hb) <;> (simp only [go_sem, hb])) | ((first | apply wm_done | apply wt_done | apply wg_run | refine fk ?_ ?_) <;> (simp only [go_sem]))) | (first | refine cdq ?_ (hc := h1) | refine cmq ?_ (hc := h1) | refine ctq ?_ (hc := h1)); (simp only [go_sem]) | (first | refine cdq ?_ (hc := h2) | refine cmq ?_ (hc := h2) | refine ctq ?_ (hc := h2)); (simp only [go_sem]))
  refine wd_for [1, 2, 3, 4] (fun k => [.one (.ptr 9 0 0 0), .one (.ptr 9 1 0 0), .one (.ptr 9 2 0 0), .one (.sc (.int .i64 (k : Nat)))])
    (fun k => [⟨9, 35, .mut, [teC t]⟩, ⟨9, 35, .mut, [[.sc (.int .i64 0), .sc (.string { data := { toList := [] } }), .sc (.int .i64 0), .sc (.int .i64 0), .sc (.slice none 0 0), .sc (.int .i64 0), .sc (.slice none 0 0), .sc (.int .i64 0), .sc (.slice none 0 0)]]⟩] ++ (match k with | 0 => [⟨9, 35, .mut, [teK t (.sc (.slice none 0 0))]⟩] | k + 1 => [⟨9, 35, .mut, [teK t (.row 9 3 (k + 1))]⟩, ⟨9, 35, .mut, teR (t.kids.take (k + 1))⟩]))
    (fun k => k ≤ t.kids.length) (fun k => t.kids.length - k) 0 (Nat.zero_le _) (hat [0, 1, 2] (hI := ⟨rfl, rfl⟩)) ?_
  rintro (_ | k) hk G hG
  · refine wg_run ?_
    simp only [teK] at hG ⊢
    (simp only [go_sem])
    ((first | apply sp1 | apply sp2 | apply sp3 | apply sp4 | apply sp5 | apply sp6 | apply sp7) <;> intro hb) <;> (simp only [go_sem, hb])
    · have hk1 : 0 < t.kids.length := by have := of_decide_eq_true hb; omega
      have hc := ih (teKid t.kids 0) (by have := teKid_lt hk1; omega)
      repeat' (first | (first | (simp only [go_sem, hb]) | (((first | apply sp1 | apply sp2 | apply sp3 | apply sp4 | apply sp5 | apply sp6 | apply sp7) <;> intro hb) <;> (simp only [go_sem, hb, hb])) | ((first | apply wm_done | apply wt_done | apply wg_run | refine fk ?_ ?_) <;> (simp only [go_sem, hb]))) | ((first | refine mxq6 [] ?_ | refine mxq5 [] ?_ | refine mxq4 [] ?_ | refine mxq3 [] ?_ | refine mxq2 [] ?_ | refine mxq1 [] ?_ | refine mxq0 [] ?_ | fail); (simp only [go_sem, hb])) | (first | refine cdq ?_ (hc := hc) | refine cmq ?_ (hc := hc) | refine ctq ?_ (hc := hc)); (simp only [go_sem]))
      refine hG 1 _ _ (by omega) (by omega) (hat [0, 1, 2, 4] (hI := ⟨rfl, ?_⟩))
      simp only [teR_take hk1, List.take_zero, teR, List.nil_append, List.cons_append]
    · have hk1 : t.kids = [] := by have := of_decide_eq_false hb; exact List.eq_nil_of_length_eq_zero (by omega)
      exact hR _ (rwn [] (hK := (.inl ⟨hk1, rfl, rfl⟩)))
  · refine wg_run ?_
    simp only [teK] at hG ⊢
    have hw1 : k + 1 < t.kids.length → IntKind.i64.wrap (((k + 1 : Nat) : Int) + 1) = ((k + 1 + 1 : Nat) : Int) := fun h => wrap_succ h (by omega)
    (simp only [go_sem])
    ((first | apply sp1 | apply sp2 | apply sp3 | apply sp4 | apply sp5 | apply sp6 | apply sp7) <;> intro hb) <;> (simp only [go_sem, hb])
    · have hk1 : k + 1 < t.kids.length := by have := of_decide_eq_true hb; omega
      have hw1 := hw1 hk1
      have hlen : (t.kids.take (k + 1)).length = k + 1 := by rw [List.length_take]; omega
      have hcap : (k + 1 + 1) * 128 ≤ 140737488355328 := by omega
      have hc := ih (teKid t.kids (k + 1)) (by have := teKid_lt hk1; omega)
      repeat' (first | (first | (simp only [go_sem, hb, hlen, hcap, hw1]) | (((first | apply sp1 | apply sp2 | apply sp3 | apply sp4 | apply sp5 | apply sp6 | apply sp7) <;> intro hb) <;> (simp only [go_sem, hb, hb, hlen, hcap, hw1])) | ((first | apply wm_done | apply wt_done | apply wg_run | refine fk ?_ ?_) <;> (simp only [go_sem, hb, hlen, hcap, hw1]))) | ((first | refine mxq6 [] ?_ | refine mxq5 [] ?_ | refine mxq4 [] ?_ | refine mxq3 [] ?_ | refine mxq2 [] ?_ | refine mxq1 [] ?_ | refine mxq0 [] ?_ | fail); (simp only [go_sem, hb, hlen, hcap, hw1])) | (first | refine cdq ?_ (hc := hc) | refine cmq ?_ (hc := hc) | refine ctq ?_ (hc := hc)); (simp only [go_sem]))
      refine hG (k + 2) _ _ (by omega) (by omega) (hat [0, 1, 2, 5] (hI := ⟨rfl, ?_⟩))
      rw [← teR_take hk1]
      rfl
    · have hk1 : t.kids.take (k + 1) = t.kids := by have := of_decide_eq_false hb; exact List.take_of_length_le (by omega)
      have hlen : t.kids.length = k + 1 := by have := of_decide_eq_false hb; omega
      rw [hk1]
      exact hR _ (ret_own [3] (by (simp only [go_sem, hlen]); first | done | rfl) (by (simp only [go_sem, hlen]); first | done | rfl) (.inr ⟨by omega, by rw [hlen]; rfl, rfl⟩))
end Go.Proofs.Ytchcbfbnffhifaa
