/- Texts of the proof, one behind another. -/
import Derived.Test.YtnaebafafhamjaaGreatKY7
import Derived.Test.YtnaebafafhamjaaGreatKY8
import Derived.Test.YtnaebafafhamjaaGreatKY10
set_option linter.unusedSimpArgs false
set_option linter.unusedVariables false
/- The plain laws of subtyping. -/
namespace Go.Proofs.Grad

theorem T.cons_symm (a : T) : ∀ b : T, a.cons b = b.cons a := by
  induction a with
  | fn a b iha ihb => intro c; cases c <;> simp [T.cons, iha, ihb]
  | pr a b iha ihb => intro c; cases c <;> simp [T.cons, iha, ihb]
  | _ => intro c; cases c <;> simp [T.cons]

end Go.Proofs.Grad
/- Types: consistency in the reference, on shadows. -/
namespace Go.Proofs.YtnaebafafhamjaaGreat
open Go.RowKit Go.Proofs.Sh Go.Proofs.Grad
set_option maxRecDepth 100000
set_option maxHeartbeats 4000000
theorem l1Cons (n : Nat) : ∀ a b : T, a.size < n → AFn Tryz.prog 109 [.agg (tyC a.ty), .agg (tyC b.ty)] (.one (.sc (.bool (a.cons b)))) := by
  induction n with
  | zero => intro a b h; omega
  | succ n ih =>
    intro a b h
    rcases a with _ | _ | _ | ⟨a1, a2⟩ | ⟨a1, a2⟩ <;> rcases b with _ | _ | _ | ⟨b1, b2⟩ | ⟨b1, b2⟩
    all_goals simp only [T.size] at h
    all_goals
      refine fn_in ?_; refine acl_in Tryz.func109 rfl isfn_109 (Nat.le_of_ble_eq_true rfl) (fun R hR => ?_); rw [Tryz.results109] at hR; refine wg_run ?_; (simp only [Tryz.f109, go_sem])
      repeat' (first | (first | (((first | apply sp1 | apply sp2 | apply sp3 | apply sp4 | apply sp5 | apply sp6 | apply sp7) <;> intro hb) <;> (simp only [go_sem, hb])) | ((first | apply wm_done | apply wt_done | apply wg_run | refine fk ?_ ?_) <;> (simp only [go_sem]))) | (first | (refine wl_next (wg_run ?_); (simp only [go_sem])) | refine wd_rounds 6 ?_) | (first | refine cdq ?_ (hc := ih _ _ (by omega)) | refine cmq ?_ (hc := ih _ _ (by omega)) | refine ctq ?_ (hc := ih _ _ (by omega))); (simp only [go_sem]) | ((first | refine mxq6 [] ?_ | refine mxq5 [] ?_ | refine mxq4 [] ?_ | refine mxq3 [] ?_ | refine mxq2 [] ?_ | refine mxq1 [] ?_ | refine mxq0 [] ?_ | fail); (simp only [go_sem])))
      all_goals (refine hR _ (rat [] (hK := ⟨?_, rfl⟩)))
      all_goals simp_all [T.cons]
end Go.Proofs.YtnaebafafhamjaaGreat
/- Terms: validity in the reference, on shadows. -/
namespace Go.Proofs.YtnaebafafhamjaaGreat
open Go.RowKit Go.Proofs.Sh Go.Proofs.Grad
set_option maxRecDepth 100000
set_option maxHeartbeats 8000000
theorem lab_labN (n : Int) : lab n = (decide (labN n ≥ 1) && decide (labN n ≤ 99)) := by
  rw [Bool.eq_iff_iff]; unfold labN lab; simp; split <;> (try split) <;> omega
theorem l4Own (t : Tm) (h : t.kind = 14) : AFn Tryz.prog 115 [.agg (teC t)] (.one (.sc (.bool t.ownOk))) := by
  have ht := sValid t.type
  have hf := sValid t.frm
  have hl := l1Abs t.label
  unfold Tm.ownOk
  rw [h, lab_labN]
  simp only [Int.reduceEq, or_true, true_or, or_false, or_self, if_true, if_false, reduceIte]
  cases e1 : t.type.valid
  · rw [e1] at ht
    rw [onT_off _ (by simp [e1])]
    refine fn_in ?_; refine acl_in Tryz.func115 rfl isfn_115 (Nat.le_of_ble_eq_true rfl) (fun R hR => ?_); rw [Tryz.results115] at hR; refine wg_run ?_; (simp only [Tryz.f115, go_sem])
    repeat' (first | (first | (simp only [go_sem, bytes_nil]) | (((first | apply sp1 | apply sp2 | apply sp3 | apply sp4 | apply sp5 | apply sp6 | apply sp7) <;> intro hb) <;> (simp only [go_sem, hb, bytes_nil])) | ((first | apply wm_done | apply wt_done | apply wg_run | refine fk ?_ ?_) <;> (simp only [go_sem, bytes_nil]))) | (first | refine cdq ?_ (hc := ht) | refine cmq ?_ (hc := ht) | refine ctq ?_ (hc := ht)); (simp only [go_sem]) | (first | refine cdq ?_ (hc := hl) | refine cmq ?_ (hc := hl) | refine ctq ?_ (hc := hl)); (simp only [go_sem]))
    all_goals (refine hR _ (rat [] (hK := ⟨?_, rfl⟩)))
    all_goals clear hR ht hf hl
    all_goals simp_all
  · rw [e1] at ht
    cases e2 : t.frm.valid
    · rw [e2] at hf
      rw [onT_off _ (by simp [e2])]
      refine fn_in ?_; refine acl_in Tryz.func115 rfl isfn_115 (Nat.le_of_ble_eq_true rfl) (fun R hR => ?_); rw [Tryz.results115] at hR; refine wg_run ?_; (simp only [Tryz.f115, go_sem])
      repeat' (first | (first | (simp only [go_sem, bytes_nil]) | (((first | apply sp1 | apply sp2 | apply sp3 | apply sp4 | apply sp5 | apply sp6 | apply sp7) <;> intro hb) <;> (simp only [go_sem, hb, bytes_nil])) | ((first | apply wm_done | apply wt_done | apply wg_run | refine fk ?_ ?_) <;> (simp only [go_sem, bytes_nil]))) | (first | refine cdq ?_ (hc := ht) | refine cmq ?_ (hc := ht) | refine ctq ?_ (hc := ht)); (simp only [go_sem]) | (first | refine cdq ?_ (hc := hf) | refine cmq ?_ (hc := hf) | refine ctq ?_ (hc := hf)); (simp only [go_sem]) | (first | refine cdq ?_ (hc := hl) | refine cmq ?_ (hc := hl) | refine ctq ?_ (hc := hl)); (simp only [go_sem]))
      all_goals (refine hR _ (rat [] (hK := ⟨?_, rfl⟩)))
      all_goals clear hR ht hf hl
      all_goals simp_all
    · rw [e2] at hf
      obtain ⟨x, hx, hdx⟩ := (Ty.valid_iff _).1 e1
      obtain ⟨y, hy, hdy⟩ := (Ty.valid_iff _).1 e2
      have hc := l1Cons _ y x (Nat.lt_succ_self _)
      rw [← hx, ← hy, onT_ty _ hdy hdx]
      rw [hx, hy] at hc
      refine fn_in ?_; refine acl_in Tryz.func115 rfl isfn_115 (Nat.le_of_ble_eq_true rfl) (fun R hR => ?_); rw [Tryz.results115] at hR; refine wg_run ?_; (simp only [Tryz.f115, go_sem])
      repeat' (first | (first | (simp only [go_sem, bytes_nil]) | (((first | apply sp1 | apply sp2 | apply sp3 | apply sp4 | apply sp5 | apply sp6 | apply sp7) <;> intro hb) <;> (simp only [go_sem, hb, bytes_nil])) | ((first | apply wm_done | apply wt_done | apply wg_run | refine fk ?_ ?_) <;> (simp only [go_sem, bytes_nil]))) | (first | refine cdq ?_ (hc := ht) | refine cmq ?_ (hc := ht) | refine ctq ?_ (hc := ht)); (simp only [go_sem]) | (first | refine cdq ?_ (hc := hf) | refine cmq ?_ (hc := hf) | refine ctq ?_ (hc := hf)); (simp only [go_sem]) | (first | refine cdq ?_ (hc := hl) | refine cmq ?_ (hc := hl) | refine ctq ?_ (hc := hl)); (simp only [go_sem]) | (first | refine cdq ?_ (hc := hc) | refine cmq ?_ (hc := hc) | refine ctq ?_ (hc := hc)); (simp only [go_sem]))
      all_goals (refine hR _ (rat [] (hK := ⟨?_, rfl⟩)))
      all_goals clear hR ht hf hl hc
      all_goals simp_all
      all_goals (try grind)
theorem l2Count (n : Nat) (hn : n ≤ 4611686018427387904) : ∀ (t : Tm) (no : Int) (m : Nat), m ≤ 100 → t.size < n → t.shape no m = true → AFn Tryz.prog 75 [.agg (teC t), .one (.sc (.int .i64 (m : Nat)))] (.one (.sc (.int .i64 (t.nodes : Nat)))) := by
  induction n with
  | zero => intro t no m _ h; omega
  | succ n ih =>
    intro t no m hm h hs
    obtain ⟨m, rfl⟩ : ∃ k, m = k + 1 := by cases m with | zero => simp [Tm.shape] at hs | succ k => exact ⟨k, rfl⟩
    have hl := telen_lt t
    have hnl := t.nodes_le
    have hne := t.nodes_eq
    have hd : decide (((m + 1 : Nat) : Int) > 0) = true := by simp only [decide_eq_true_eq]; omega
    have hw : IntKind.i64.wrap (((m + 1 : Nat) : Int) - 1) = (m : Int) := by rw [IntWalk.i64_in _ (by omega)]; omega
    simp only [Tm.shape_succ, Bool.and_eq_true, List.all_eq_true] at hs
    refine fn_in ?_; refine acl_in Tryz.func75 rfl isfn_75 (Nat.le_of_ble_eq_true rfl) (fun R hR => ?_); rw [Tryz.results75] at hR; refine wg_run ?_; (simp only [Tryz.f75, go_sem, hd])
    refine wd_for [1, 2, 5, 6] (fun k => [.one (.sc (.int .i64 ((m + 1 : Nat) : Int))), .one (.ptr 9 0 0 0), .one (.sc (.int .i64 ((1 + Tm.nodess (t.kids.take k) : Nat) : Int))), .one (.sc (.int .i64 (k : Nat)))]) (fun k => [⟨9, 28, .mut, [teC t]⟩])
      (fun k => k ≤ t.kids.length) (fun k => t.kids.length - k) 0 (Nat.zero_le _) (hat [0] (hI := ⟨rfl, rfl⟩)) ?_
    rintro k hk G hG
    refine wg_run ?_
    (simp only [go_sem, hd])
    ((first | apply sp1 | apply sp2 | apply sp3 | apply sp4 | apply sp5 | apply sp6 | apply sp7) <;> intro hb) <;> (simp only [go_sem, hb, hd])
    · have hk1 : k < t.kids.length := by have := of_decide_eq_true hb; omega
      have hw1 := wrap_succ hk1 (by omega)
      have hle := Tm.nodess_le_take t.kids (k + 1)
      rw [Tm.nodess_take hk1] at hle
      have hw2 : IntKind.i64.wrap (((1 + Tm.nodess (t.kids.take k) : Nat) : Int) + ((teKid t.kids k).nodes : Int)) = ((1 + Tm.nodess (t.kids.take (k + 1)) : Nat) : Int) := by
        rw [Tm.nodess_take hk1, IntWalk.i64_in _ (by omega)]; omega
      have hc := ih (by omega) (teKid t.kids k) no m (by omega) (by have := teKid_lt hk1; omega) (hs.2.2 _ (by rw [teKid_eq hk1]; exact List.getElem_mem hk1))
      repeat' (first | (first | (simp only [go_sem, hd, hw, hw1, hw2, hb]) | (((first | apply sp1 | apply sp2 | apply sp3 | apply sp4 | apply sp5 | apply sp6 | apply sp7) <;> intro hb) <;> (simp only [go_sem, hb, hd, hw, hw1, hw2, hb])) | ((first | apply wm_done | apply wt_done | apply wg_run | refine fk ?_ ?_) <;> (simp only [go_sem, hd, hw, hw1, hw2, hb]))) | (first | refine cdq ?_ (hc := hc) | refine cmq ?_ (hc := hc) | refine ctq ?_ (hc := hc)); (simp only [go_sem]) | ((first | refine mxq6 [] ?_ | refine mxq5 [] ?_ | refine mxq4 [] ?_ | refine mxq3 [] ?_ | refine mxq2 [] ?_ | refine mxq1 [] ?_ | refine mxq0 [] ?_ | fail); (simp only [go_sem, hb])))
      exact hG (k + 1) _ _ (by omega) (by omega) (hat [0] (hI := ⟨rfl, rfl⟩))
    · have hk1 : t.kids.take k = t.kids := List.take_of_length_le (by have := of_decide_eq_false hb; omega)
      rw [hk1, ← hne]
      (refine hR _ (rat [] (hK := ⟨rfl, rfl⟩)))

theorem l2Shape (n : Nat) (hn : n ≤ 4611686018427387904) : ∀ (t : Tm) (m : Nat), m ≤ 100 → t.size < n → AFn Tryz.prog 215 [.agg (teC t), .one (.sc (.int .i64 (m : Nat)))] (.one (.sc (.bool (t.shape 14 m)))) := by
  induction n with
  | zero => intro t m _ h; omega
  | succ n ih =>
    intro t m hm h
    cases m with
    | zero =>
      have hd : decide (((0 : Nat) : Int) < 1) = true := rfl
      refine fn_in ?_; refine acl_in Tryz.func215 rfl isfn_215 (Nat.le_of_ble_eq_true rfl) (fun R hR => ?_); rw [Tryz.results215] at hR; refine wg_run ?_; (simp only [Tryz.f215, go_sem, hd])
      repeat' (first | (first | (simp only [go_sem, hd]) | (((first | apply sp1 | apply sp2 | apply sp3 | apply sp4 | apply sp5 | apply sp6 | apply sp7) <;> intro hb) <;> (simp only [go_sem, hb, hd])) | ((first | apply wm_done | apply wt_done | apply wg_run | refine fk ?_ ?_) <;> (simp only [go_sem, hd]))) | ((first | refine mxq6 [] ?_ | refine mxq5 [] ?_ | refine mxq4 [] ?_ | refine mxq3 [] ?_ | refine mxq2 [] ?_ | refine mxq1 [] ?_ | refine mxq0 [] ?_ | fail); (simp only [go_sem, hd])))
      (refine hR _ (rat [] (hK := ⟨rfl, rfl⟩)))
    | succ m =>
      have hl := telen_lt t
      have hd : decide (((m + 1 : Nat) : Int) < 1) = false := by simp only [decide_eq_false_iff_not]; omega
      have hw : IntKind.i64.wrap (((m + 1 : Nat) : Int) - 1) = (m : Int) := by rw [IntWalk.i64_in _ (by omega)]; omega
      have hk := l2Kids t.kind
      by_cases hlen : opN t.kind = (t.kids.length : Int)
      · have hb0 : (opN t.kind == (t.kids.length : Int)) = true := by simp [hlen]
        have hkd : 1 ≤ t.kind ∧ t.kind ≤ 14 := by
          rcases opN_cases t.kind with h | h
          · exact h
          · rw [h] at hlen; omega
        cases hc14 : (t.kind == 14)
        · have hk13 : t.kind ≤ 13 := by rw [beq_eq_false_iff_ne] at hc14; omega
          have ho := l2Own t hkd.1 hk13
          cases hok : t.ownOk
          · rw [hok] at ho
            have he : t.shape 14 (m + 1) = false := by rw [Tm.shape_succ, Tm.nodeOk_own, hok]; simp
            rw [he]
            refine fn_in ?_; refine acl_in Tryz.func215 rfl isfn_215 (Nat.le_of_ble_eq_true rfl) (fun R hR => ?_); rw [Tryz.results215] at hR; refine wg_run ?_; (simp only [Tryz.f215, go_sem, hd])
            repeat' (first | (first | (simp only [go_sem, hd, hb0, hc14, int_bne]) | (((first | apply sp1 | apply sp2 | apply sp3 | apply sp4 | apply sp5 | apply sp6 | apply sp7) <;> intro hb) <;> (simp only [go_sem, hb, hd, hb0, hc14, int_bne])) | ((first | apply wm_done | apply wt_done | apply wg_run | refine fk ?_ ?_) <;> (simp only [go_sem, hd, hb0, hc14, int_bne]))) | ((first | refine mxq6 [] ?_ | refine mxq5 [] ?_ | refine mxq4 [] ?_ | refine mxq3 [] ?_ | refine mxq2 [] ?_ | refine mxq1 [] ?_ | refine mxq0 [] ?_ | fail); (simp only [go_sem, hd, hb0, hc14, int_bne])) | (first | refine cdq ?_ (hc := hk) | refine cmq ?_ (hc := hk) | refine ctq ?_ (hc := hk)); (simp only [go_sem]) | (first | refine cdq ?_ (hc := ho) | refine cmq ?_ (hc := ho) | refine ctq ?_ (hc := ho)); (simp only [go_sem]))
            (refine hR _ (rat [] (hK := ⟨rfl, rfl⟩)))
          · rw [hok] at ho
            have he : t.shape 14 (m + 1) = t.kids.all (Tm.shape 14 m) := by rw [Tm.shape_succ, Tm.nodeOk_own, hok, hb0, hc14]; simp
            rw [he]
            refine fn_in ?_; refine acl_in Tryz.func215 rfl isfn_215 (Nat.le_of_ble_eq_true rfl) (fun R hR => ?_); rw [Tryz.results215] at hR; refine wg_run ?_; (simp only [Tryz.f215, go_sem, hd])
            repeat' (first | (first | (simp only [go_sem, hd, hb0, hc14, int_bne]) | (((first | apply sp1 | apply sp2 | apply sp3 | apply sp4 | apply sp5 | apply sp6 | apply sp7) <;> intro hb) <;> (simp only [go_sem, hb, hd, hb0, hc14, int_bne])) | ((first | apply wm_done | apply wt_done | apply wg_run | refine fk ?_ ?_) <;> (simp only [go_sem, hd, hb0, hc14, int_bne]))) | ((first | refine mxq6 [] ?_ | refine mxq5 [] ?_ | refine mxq4 [] ?_ | refine mxq3 [] ?_ | refine mxq2 [] ?_ | refine mxq1 [] ?_ | refine mxq0 [] ?_ | fail); (simp only [go_sem, hd, hb0, hc14, int_bne])) | (first | refine cdq ?_ (hc := hk) | refine cmq ?_ (hc := hk) | refine ctq ?_ (hc := hk)); (simp only [go_sem]) | (first | refine cdq ?_ (hc := ho) | refine cmq ?_ (hc := ho) | refine ctq ?_ (hc := ho)); (simp only [go_sem]))
            refine wd_for [1, 2, 5] (fun k => [.one (.sc (.int .i64 ((m + 1 : Nat) : Int))), .one (.ptr 9 0 0 0), .one (.sc (.int .i64 (k : Nat)))]) (fun k => [⟨9, 28, .mut, [teC t]⟩])
              (fun k => k ≤ t.kids.length ∧ (t.kids.drop k).all (Tm.shape 14 m) = t.kids.all (Tm.shape 14 m)) (fun k => t.kids.length - k) 0 ⟨Nat.zero_le _, rfl⟩ (hat [0] (hI := ⟨rfl, rfl⟩)) ?_
            rintro k ⟨hk0, hs⟩ G hG
            refine wg_run ?_
            (simp only [go_sem])
            ((first | apply sp1 | apply sp2 | apply sp3 | apply sp4 | apply sp5 | apply sp6 | apply sp7) <;> intro hb) <;> (simp only [go_sem, hb, hw])
            · have hk1 : k < t.kids.length := by have := of_decide_eq_true hb; omega
              have hw1 := wrap_succ hk1 (by omega)
              rw [tedrop_kid hk1, List.all_cons] at hs
              have hc := ih (by omega) (teKid t.kids k) m (by omega) (by have := teKid_lt hk1; omega)
              repeat' (first | (first | (simp only [go_sem, hw1, hw, hb]) | (((first | apply sp1 | apply sp2 | apply sp3 | apply sp4 | apply sp5 | apply sp6 | apply sp7) <;> intro hb) <;> (simp only [go_sem, hb, hw1, hw, hb])) | ((first | apply wm_done | apply wt_done | apply wg_run | refine fk ?_ ?_) <;> (simp only [go_sem, hw1, hw, hb]))) | (first | refine cdq ?_ (hc := hc) | refine cmq ?_ (hc := hc) | refine ctq ?_ (hc := hc)); (simp only [go_sem]))
              · exact hG (k + 1) _ _ ⟨by omega, by simpa [hb] using hs⟩ (by omega) (hat [0] (hI := ⟨rfl, rfl⟩))
              · (refine hR _ (rat [] (hK := ⟨?_, rfl⟩)))
                simpa [hb] using hs
            · have hk1 : ¬ k < t.kids.length := by have := of_decide_eq_false hb; omega
              rw [List.drop_eq_nil_of_le (by omega)] at hs
              (refine hR _ (rat [] (hK := ⟨?_, rfl⟩)))
              simpa using hs
        · have he : t.shape 14 (m + 1) = false := by rw [Tm.shape_succ, hc14]; simp
          rw [he]
          refine fn_in ?_; refine acl_in Tryz.func215 rfl isfn_215 (Nat.le_of_ble_eq_true rfl) (fun R hR => ?_); rw [Tryz.results215] at hR; refine wg_run ?_; (simp only [Tryz.f215, go_sem, hd])
          repeat' (first | (first | (simp only [go_sem, hd, hb0, hc14, int_bne]) | (((first | apply sp1 | apply sp2 | apply sp3 | apply sp4 | apply sp5 | apply sp6 | apply sp7) <;> intro hb) <;> (simp only [go_sem, hb, hd, hb0, hc14, int_bne])) | ((first | apply wm_done | apply wt_done | apply wg_run | refine fk ?_ ?_) <;> (simp only [go_sem, hd, hb0, hc14, int_bne]))) | ((first | refine mxq6 [] ?_ | refine mxq5 [] ?_ | refine mxq4 [] ?_ | refine mxq3 [] ?_ | refine mxq2 [] ?_ | refine mxq1 [] ?_ | refine mxq0 [] ?_ | fail); (simp only [go_sem, hd, hb0, hc14, int_bne])) | (first | refine cdq ?_ (hc := hk) | refine cmq ?_ (hc := hk) | refine ctq ?_ (hc := hk)); (simp only [go_sem]))
          (refine hR _ (rat [] (hK := ⟨rfl, rfl⟩)))
      · have hb0 : (opN t.kind == (t.kids.length : Int)) = false := by simp [hlen]
        have he : t.shape 14 (m + 1) = false := by rw [Tm.shape_succ, Tm.nodeOk_own, hb0]; simp
        rw [he]
        refine fn_in ?_; refine acl_in Tryz.func215 rfl isfn_215 (Nat.le_of_ble_eq_true rfl) (fun R hR => ?_); rw [Tryz.results215] at hR; refine wg_run ?_; (simp only [Tryz.f215, go_sem, hd])
        repeat' (first | (first | (simp only [go_sem, hd, hb0, int_bne]) | (((first | apply sp1 | apply sp2 | apply sp3 | apply sp4 | apply sp5 | apply sp6 | apply sp7) <;> intro hb) <;> (simp only [go_sem, hb, hd, hb0, int_bne])) | ((first | apply wm_done | apply wt_done | apply wg_run | refine fk ?_ ?_) <;> (simp only [go_sem, hd, hb0, int_bne]))) | ((first | refine mxq6 [] ?_ | refine mxq5 [] ?_ | refine mxq4 [] ?_ | refine mxq3 [] ?_ | refine mxq2 [] ?_ | refine mxq1 [] ?_ | refine mxq0 [] ?_ | fail); (simp only [go_sem, hd, hb0, int_bne])) | (first | refine cdq ?_ (hc := hk) | refine cmq ?_ (hc := hk) | refine ctq ?_ (hc := hk)); (simp only [go_sem]))
        (refine hR _ (rat [] (hK := ⟨rfl, rfl⟩)))
theorem l4Shape (n : Nat) (hn : n ≤ 4611686018427387904) : ∀ (t : Tm) (m : Nat), m ≤ 100 → t.size < n → AFn Tryz.prog 74 [.agg (teC t), .one (.sc (.int .i64 (m : Nat)))] (.one (.sc (.bool (t.shape 13 m)))) := by
  induction n with
  | zero => intro t m _ h; omega
  | succ n ih =>
    intro t m hm h
    cases m with
    | zero =>
      have hd : decide (((0 : Nat) : Int) < 1) = true := rfl
      refine fn_in ?_; refine acl_in Tryz.func74 rfl isfn_74 (Nat.le_of_ble_eq_true rfl) (fun R hR => ?_); rw [Tryz.results74] at hR; refine wg_run ?_; (simp only [Tryz.f74, go_sem, hd])
      repeat' (first | (first | (simp only [go_sem, hd]) | (((first | apply sp1 | apply sp2 | apply sp3 | apply sp4 | apply sp5 | apply sp6 | apply sp7) <;> intro hb) <;> (simp only [go_sem, hb, hd])) | ((first | apply wm_done | apply wt_done | apply wg_run | refine fk ?_ ?_) <;> (simp only [go_sem, hd]))) | ((first | refine mxq6 [] ?_ | refine mxq5 [] ?_ | refine mxq4 [] ?_ | refine mxq3 [] ?_ | refine mxq2 [] ?_ | refine mxq1 [] ?_ | refine mxq0 [] ?_ | fail); (simp only [go_sem, hd])))
      (refine hR _ (rat [] (hK := ⟨rfl, rfl⟩)))
    | succ m =>
      have hl := telen_lt t
      have hd : decide (((m + 1 : Nat) : Int) < 1) = false := by simp only [decide_eq_false_iff_not]; omega
      have hw : IntKind.i64.wrap (((m + 1 : Nat) : Int) - 1) = (m : Int) := by rw [IntWalk.i64_in _ (by omega)]; omega
      have hk := l2Kids t.kind
      by_cases hlen : opN t.kind = (t.kids.length : Int)
      · have hb0 : (opN t.kind == (t.kids.length : Int)) = true := by simp [hlen]
        have hkd : 1 ≤ t.kind ∧ t.kind ≤ 14 := by
          rcases opN_cases t.kind with h | h
          · exact h
          · rw [h] at hlen; omega
        cases hc13 : (t.kind == 13)
        · obtain ⟨f, hf14, ho⟩ : ∃ b : Bool, (t.kind == 14) = b ∧ (match b with | true => AFn Tryz.prog 115 [.agg (teC t)] (.one (.sc (.bool t.ownOk))) | false => AFn Tryz.prog 116 [.agg (teC t)] (.one (.sc (.bool t.ownOk)))) := by
            cases hc14 : (t.kind == 14)
            · exact ⟨false, rfl, l2Own t hkd.1 (by rw [beq_eq_false_iff_ne] at hc14; omega)⟩
            · exact ⟨true, rfl, l4Own t (by simpa using hc14)⟩
          cases hok : t.ownOk
          · rw [hok] at ho
            have he : t.shape 13 (m + 1) = false := by rw [Tm.shape_succ, Tm.nodeOk_own, hok]; simp
            rw [he]
            cases f
            all_goals
              simp only [] at ho
              refine fn_in ?_; refine acl_in Tryz.func74 rfl isfn_74 (Nat.le_of_ble_eq_true rfl) (fun R hR => ?_); rw [Tryz.results74] at hR; refine wg_run ?_; (simp only [Tryz.f74, go_sem, hd])
              repeat' (first | (first | (simp only [go_sem, hd, hb0, hc13, hf14, int_bne]) | (((first | apply sp1 | apply sp2 | apply sp3 | apply sp4 | apply sp5 | apply sp6 | apply sp7) <;> intro hb) <;> (simp only [go_sem, hb, hd, hb0, hc13, hf14, int_bne])) | ((first | apply wm_done | apply wt_done | apply wg_run | refine fk ?_ ?_) <;> (simp only [go_sem, hd, hb0, hc13, hf14, int_bne]))) | ((first | refine mxq6 [] ?_ | refine mxq5 [] ?_ | refine mxq4 [] ?_ | refine mxq3 [] ?_ | refine mxq2 [] ?_ | refine mxq1 [] ?_ | refine mxq0 [] ?_ | fail); (simp only [go_sem, hd, hb0, hc13, hf14, int_bne])) | (first | refine cdq ?_ (hc := hk) | refine cmq ?_ (hc := hk) | refine ctq ?_ (hc := hk)); (simp only [go_sem]) | (first | refine cdq ?_ (hc := ho) | refine cmq ?_ (hc := ho) | refine ctq ?_ (hc := ho)); (simp only [go_sem]))
              (refine hR _ (rat [] (hK := ⟨rfl, rfl⟩)))
          · rw [hok] at ho
            have he : t.shape 13 (m + 1) = t.kids.all (Tm.shape 13 m) := by rw [Tm.shape_succ, Tm.nodeOk_own, hok, hb0, hc13]; simp
            rw [he]
            cases f
            all_goals
              simp only [] at ho
              refine fn_in ?_; refine acl_in Tryz.func74 rfl isfn_74 (Nat.le_of_ble_eq_true rfl) (fun R hR => ?_); rw [Tryz.results74] at hR; refine wg_run ?_; (simp only [Tryz.f74, go_sem, hd])
              repeat' (first | (first | (simp only [go_sem, hd, hb0, hc13, hf14, int_bne]) | (((first | apply sp1 | apply sp2 | apply sp3 | apply sp4 | apply sp5 | apply sp6 | apply sp7) <;> intro hb) <;> (simp only [go_sem, hb, hd, hb0, hc13, hf14, int_bne])) | ((first | apply wm_done | apply wt_done | apply wg_run | refine fk ?_ ?_) <;> (simp only [go_sem, hd, hb0, hc13, hf14, int_bne]))) | ((first | refine mxq6 [] ?_ | refine mxq5 [] ?_ | refine mxq4 [] ?_ | refine mxq3 [] ?_ | refine mxq2 [] ?_ | refine mxq1 [] ?_ | refine mxq0 [] ?_ | fail); (simp only [go_sem, hd, hb0, hc13, hf14, int_bne])) | (first | refine cdq ?_ (hc := hk) | refine cmq ?_ (hc := hk) | refine ctq ?_ (hc := hk)); (simp only [go_sem]) | (first | refine cdq ?_ (hc := ho) | refine cmq ?_ (hc := ho) | refine ctq ?_ (hc := ho)); (simp only [go_sem]))
              refine wd_for [1, 2, 5] (fun k => [.one (.sc (.int .i64 ((m + 1 : Nat) : Int))), .one (.ptr 9 0 0 0), .one (.sc (.int .i64 (k : Nat)))]) (fun k => [⟨9, 28, .mut, [teC t]⟩])
                (fun k => k ≤ t.kids.length ∧ (t.kids.drop k).all (Tm.shape 13 m) = t.kids.all (Tm.shape 13 m)) (fun k => t.kids.length - k) 0 ⟨Nat.zero_le _, rfl⟩ (hat [0] (hI := ⟨rfl, rfl⟩)) ?_
              rintro k ⟨hk0, hs⟩ G hG
              refine wg_run ?_
              (simp only [go_sem])
              ((first | apply sp1 | apply sp2 | apply sp3 | apply sp4 | apply sp5 | apply sp6 | apply sp7) <;> intro hb) <;> (simp only [go_sem, hb, hw])
              · have hk1 : k < t.kids.length := by have := of_decide_eq_true hb; omega
                have hw1 := wrap_succ hk1 (by omega)
                rw [tedrop_kid hk1, List.all_cons] at hs
                have hc := ih (by omega) (teKid t.kids k) m (by omega) (by have := teKid_lt hk1; omega)
                repeat' (first | (first | (simp only [go_sem, hw1, hw, hb]) | (((first | apply sp1 | apply sp2 | apply sp3 | apply sp4 | apply sp5 | apply sp6 | apply sp7) <;> intro hb) <;> (simp only [go_sem, hb, hw1, hw, hb])) | ((first | apply wm_done | apply wt_done | apply wg_run | refine fk ?_ ?_) <;> (simp only [go_sem, hw1, hw, hb]))) | (first | refine cdq ?_ (hc := hc) | refine cmq ?_ (hc := hc) | refine ctq ?_ (hc := hc)); (simp only [go_sem]))
                · exact hG (k + 1) _ _ ⟨by omega, by simpa [hb] using hs⟩ (by omega) (hat [0] (hI := ⟨rfl, rfl⟩))
                · (refine hR _ (rat [] (hK := ⟨?_, rfl⟩)))
                  simpa [hb] using hs
              · have hk1 : ¬ k < t.kids.length := by have := of_decide_eq_false hb; omega
                rw [List.drop_eq_nil_of_le (by omega)] at hs
                (refine hR _ (rat [] (hK := ⟨?_, rfl⟩)))
                simpa using hs
        · have he : t.shape 13 (m + 1) = false := by rw [Tm.shape_succ, hc13]; simp
          rw [he]
          refine fn_in ?_; refine acl_in Tryz.func74 rfl isfn_74 (Nat.le_of_ble_eq_true rfl) (fun R hR => ?_); rw [Tryz.results74] at hR; refine wg_run ?_; (simp only [Tryz.f74, go_sem, hd])
          repeat' (first | (first | (simp only [go_sem, hd, hb0, hc13, int_bne]) | (((first | apply sp1 | apply sp2 | apply sp3 | apply sp4 | apply sp5 | apply sp6 | apply sp7) <;> intro hb) <;> (simp only [go_sem, hb, hd, hb0, hc13, int_bne])) | ((first | apply wm_done | apply wt_done | apply wg_run | refine fk ?_ ?_) <;> (simp only [go_sem, hd, hb0, hc13, int_bne]))) | ((first | refine mxq6 [] ?_ | refine mxq5 [] ?_ | refine mxq4 [] ?_ | refine mxq3 [] ?_ | refine mxq2 [] ?_ | refine mxq1 [] ?_ | refine mxq0 [] ?_ | fail); (simp only [go_sem, hd, hb0, hc13, int_bne])) | (first | refine cdq ?_ (hc := hk) | refine cmq ?_ (hc := hk) | refine ctq ?_ (hc := hk)); (simp only [go_sem]))
          (refine hR _ (rat [] (hK := ⟨rfl, rfl⟩)))
      · have hb0 : (opN t.kind == (t.kids.length : Int)) = false := by simp [hlen]
        have he : t.shape 13 (m + 1) = false := by rw [Tm.shape_succ, Tm.nodeOk_own, hb0]; simp
        rw [he]
        refine fn_in ?_; refine acl_in Tryz.func74 rfl isfn_74 (Nat.le_of_ble_eq_true rfl) (fun R hR => ?_); rw [Tryz.results74] at hR; refine wg_run ?_; (simp only [Tryz.f74, go_sem, hd])
        repeat' (first | (first | (simp only [go_sem, hd, hb0, int_bne]) | (((first | apply sp1 | apply sp2 | apply sp3 | apply sp4 | apply sp5 | apply sp6 | apply sp7) <;> intro hb) <;> (simp only [go_sem, hb, hd, hb0, int_bne])) | ((first | apply wm_done | apply wt_done | apply wg_run | refine fk ?_ ?_) <;> (simp only [go_sem, hd, hb0, int_bne]))) | ((first | refine mxq6 [] ?_ | refine mxq5 [] ?_ | refine mxq4 [] ?_ | refine mxq3 [] ?_ | refine mxq2 [] ?_ | refine mxq1 [] ?_ | refine mxq0 [] ?_ | fail); (simp only [go_sem, hd, hb0, int_bne])) | (first | refine cdq ?_ (hc := hk) | refine cmq ?_ (hc := hk) | refine ctq ?_ (hc := hk)); (simp only [go_sem]))
        (refine hR _ (rat [] (hK := ⟨rfl, rfl⟩)))
theorem sTermV (t : Tm) (h : t.size < 4611686018427387904) : AFn Tryz.prog 195 [.agg (teC t)] (.one (.sc (.bool t.termV))) := by
  have h1 := l2Shape _ (Nat.le_refl _) t 12 (by omega) h
  unfold Tm.termV
  cases hs : t.shape 14 12
  · rw [hs] at h1
    refine fn_in ?_; refine acl_in Tryz.func195 rfl isfn_195 (Nat.le_of_ble_eq_true rfl) (fun R hR => ?_); rw [Tryz.results195] at hR; refine wg_run ?_; (simp only [Tryz.f195, go_sem])
    repeat' (first | (first | (((first | apply sp1 | apply sp2 | apply sp3 | apply sp4 | apply sp5 | apply sp6 | apply sp7) <;> intro hb) <;> (simp only [go_sem, hb])) | ((first | apply wm_done | apply wt_done | apply wg_run | refine fk ?_ ?_) <;> (simp only [go_sem]))) | (first | refine cdq ?_ (hc := h1) | refine cmq ?_ (hc := h1) | refine ctq ?_ (hc := h1)); (simp only [go_sem]))
    (refine hR _ (rat [] (hK := ⟨rfl, rfl⟩)))
  · rw [hs] at h1
    have h2 := l2Count _ (Nat.le_refl _) t 14 12 (by omega) h hs
    refine fn_in ?_; refine acl_in Tryz.func195 rfl isfn_195 (Nat.le_of_ble_eq_true rfl) (fun R hR => ?_); rw [Tryz.results195] at hR; refine wg_run ?_; (simp only [Tryz.f195, go_sem])
    repeat' (first | (first | (((first | apply sp1 | apply sp2 | apply sp3 | apply sp4 | apply sp5 | apply sp6 | apply sp7) <;> intro hb) <;> (simp only [go_sem, hb])) | ((first | apply wm_done | apply wt_done | apply wg_run | refine fk ?_ ?_) <;> (simp only [go_sem]))) | (first | refine cdq ?_ (hc := h1) | refine cmq ?_ (hc := h1) | refine ctq ?_ (hc := h1)); (simp only [go_sem]) | (first | refine cdq ?_ (hc := h2) | refine cmq ?_ (hc := h2) | refine ctq ?_ (hc := h2)); (simp only [go_sem]))
    (refine hR _ (rat [] (hK := ⟨?_, rfl⟩)))
    rw [Bool.true_and]
    have : decide ((t.nodes : Int) ≤ 30) = decide (t.nodes ≤ 30) := by rw [Bool.eq_iff_iff]; simp; omega
    rw [this]
theorem sCastV (t : Tm) (h : t.size < 4611686018427387904) : AFn Tryz.prog 35 [.agg (teC t)] (.one (.sc (.bool t.castV))) := by
  have h1 := l4Shape _ (Nat.le_refl _) t 40 (by omega) h
  unfold Tm.castV
  cases hs : t.shape 13 40
  · rw [hs] at h1
    refine fn_in ?_; refine acl_in Tryz.func35 rfl isfn_35 (Nat.le_of_ble_eq_true rfl) (fun R hR => ?_); rw [Tryz.results35] at hR; refine wg_run ?_; (simp only [Tryz.f35, go_sem])
    repeat' (first | (first | (((first | apply sp1 | apply sp2 | apply sp3 | apply sp4 | apply sp5 | apply sp6 | apply sp7) <;> intro hb) <;> (simp only [go_sem, hb])) | ((first | apply wm_done | apply wt_done | apply wg_run | refine fk ?_ ?_) <;> (simp only [go_sem]))) | (first | refine cdq ?_ (hc := h1) | refine cmq ?_ (hc := h1) | refine ctq ?_ (hc := h1)); (simp only [go_sem]))
    (refine hR _ (rat [] (hK := ⟨rfl, rfl⟩)))
  · rw [hs] at h1
    have h2 := l2Count _ (Nat.le_refl _) t 13 40 (by omega) h hs
    refine fn_in ?_; refine acl_in Tryz.func35 rfl isfn_35 (Nat.le_of_ble_eq_true rfl) (fun R hR => ?_); rw [Tryz.results35] at hR; refine wg_run ?_; (simp only [Tryz.f35, go_sem])
    repeat' (first | (first | (((first | apply sp1 | apply sp2 | apply sp3 | apply sp4 | apply sp5 | apply sp6 | apply sp7) <;> intro hb) <;> (simp only [go_sem, hb])) | ((first | apply wm_done | apply wt_done | apply wg_run | refine fk ?_ ?_) <;> (simp only [go_sem]))) | (first | refine cdq ?_ (hc := h1) | refine cmq ?_ (hc := h1) | refine ctq ?_ (hc := h1)); (simp only [go_sem]) | (first | refine cdq ?_ (hc := h2) | refine cmq ?_ (hc := h2) | refine ctq ?_ (hc := h2)); (simp only [go_sem]))
    (refine hR _ (rat [] (hK := ⟨?_, rfl⟩)))
    rw [Bool.true_and]
    have : decide ((t.nodes : Int) ≤ 200) = decide (t.nodes ≤ 200) := by rw [Bool.eq_iff_iff]; simp; omega
    rw [this]
end Go.Proofs.YtnaebafafhamjaaGreat
/- Terms: the casts of a term, on shadows. -/
namespace Go.Proofs.Grad
end Go.Proofs.Grad
namespace Go.Proofs.Sh
attribute [go_sem] List.getD_cons_zero List.getD_cons_succ List.getD_nil
end Go.Proofs.Sh
namespace Go.Proofs.YtnaebafafhamjaaGreat
open Go.RowKit Go.Proofs.Sh Go.Proofs.Grad
set_option maxRecDepth 100000
set_option maxHeartbeats 8000000
end Go.Proofs.YtnaebafafhamjaaGreat
/- Coercions as shadows. -/
namespace Go.Proofs.Sh
open Go.RowKit Go.Proofs.Grad

mutual
def coC : Co → List C
  | .mk x0 x1 x2 x3 => [.sc (.int .i64 (x0)), .sc (.int .i64 (x1)), .sc (.int .i64 (x2)), .sl (coR (x3))]
def coR : List Co → List (List C)
  | [] => []
  | t :: l => coC t :: coR l
end
theorem coC_eq (t : Co) : coC t = [.sc (.int .i64 (t.kind)), .sc (.int .i64 (t.tag)), .sc (.int .i64 (t.label)), .sl (coR (t.kids))] := by cases t; rfl
@[go_sem] theorem coC_length (t : Co) : (coC t).length = 4 := by rw [coC_eq]; rfl
@[go_sem] theorem coC_take (t : Co) : (coC t).take 4 = coC t := by rw [coC_eq]; rfl
@[go_sem] theorem coC_drop (t : Co) : (coC t).drop 0 = coC t := rfl
@[go_sem] theorem coC_dropn (t : Co) : (coC t).drop 4 = [] := by rw [coC_eq]; rfl
@[go_sem] theorem coC_treeL (t : Co) : treeL (coC t) = true := by rw [coC_eq]; rfl
@[go_sem] theorem coC_0 (t : Co) : (coC t)[0]? = some (.sc (.int .i64 (t.kind))) := by rw [coC_eq]; rfl
@[go_sem] theorem coC_1 (t : Co) : (coC t)[1]? = some (.sc (.int .i64 (t.tag))) := by rw [coC_eq]; rfl
@[go_sem] theorem coC_2 (t : Co) : (coC t)[2]? = some (.sc (.int .i64 (t.label))) := by rw [coC_eq]; rfl
@[go_sem] theorem coC_3 (t : Co) : (coC t)[3]? = some (.sl (coR (t.kids))) := by rw [coC_eq]; rfl
@[go_sem] theorem coC_splice0 (t : Co) (x : C) : splice (coC t) 0 [x] = [x, .sc (.int .i64 (t.tag)), .sc (.int .i64 (t.label)), .sl (coR (t.kids))] := by rw [coC_eq]; rfl
@[go_sem] theorem coC_splice1 (t : Co) (x : C) : splice (coC t) 1 [x] = [.sc (.int .i64 (t.kind)), x, .sc (.int .i64 (t.label)), .sl (coR (t.kids))] := by rw [coC_eq]; rfl
@[go_sem] theorem coC_splice2 (t : Co) (x : C) : splice (coC t) 2 [x] = [.sc (.int .i64 (t.kind)), .sc (.int .i64 (t.tag)), x, .sl (coR (t.kids))] := by rw [coC_eq]; rfl
@[go_sem] theorem coC_splice3 (t : Co) (x : C) : splice (coC t) 3 [x] = [.sc (.int .i64 (t.kind)), .sc (.int .i64 (t.tag)), .sc (.int .i64 (t.label)), x] := by rw [coC_eq]; rfl
@[go_sem] theorem coR_length (l : List Co) : (coR l).length = l.length := by
  induction l with
  | nil => rfl
  | cons t l ih => simp [coR, ih]
theorem coR_get (l : List Co) (i : Nat) : (coR l)[i]? = (l[i]?).map coC := by
  induction l generalizing i with
  | nil => simp [coR]
  | cons t l ih => cases i <;> simp [coR, ih]
/-- the k-th one -/
def coKid (l : List Co) (k : Nat) : Co := l.getD k (.mk 0 0 0 [])
theorem coKid_eq {l : List Co} {k : Nat} (h : k < l.length) : coKid l k = l[k] := by simp [coKid, h]
@[go_sem] theorem coR_at (l : List Co) (i : Nat) : (coR l)[i]? = match decide ((i : Int) < (l.length : Int)) with | true => some (coC (coKid l i)) | false => none := by
  rw [coR_get]
  by_cases h : i < l.length
  · have h' : (i : Int) < (l.length : Int) := by omega
    simp [h, h', coKid]
  · have h' : ¬ (i : Int) < (l.length : Int) := by omega
    simp [h, h']
theorem codrop_kid {l : List Co} {k : Nat} (h : k < l.length) : l.drop k = coKid l k :: l.drop (k + 1) := by
  rw [coKid_eq h, List.drop_eq_getElem_cons h]
@[go_sem] theorem coR_tree (l : List Co) : treeRows (coR l) = true := by
  induction l with
  | nil => rfl
  | cons t l ih => simp only [coR, treeRows_cons, coC_treeL, Bool.true_and]; exact ih
@[go_sem] theorem coR_len (l : List Co) : rowsLen 4 (coR l) = true := by
  induction l with
  | nil => rfl
  | cons t l ih => simp only [coR, rowsLen_cons, coC_length, beq_self_eq_true, Bool.true_and]; exact ih
attribute [go_sem] coR
@[go_sem] theorem cokind_mk (x0 : Int) (x1 : Int) (x2 : Int) (x3 : List Co) : (Co.mk x0 x1 x2 x3).kind = x0 := rfl
@[go_sem] theorem cotag_mk (x0 : Int) (x1 : Int) (x2 : Int) (x3 : List Co) : (Co.mk x0 x1 x2 x3).tag = x1 := rfl
@[go_sem] theorem colabel_mk (x0 : Int) (x1 : Int) (x2 : Int) (x3 : List Co) : (Co.mk x0 x1 x2 x3).label = x2 := rfl
@[go_sem] theorem cokids_mk (x0 : Int) (x1 : Int) (x2 : Int) (x3 : List Co) : (Co.mk x0 x1 x2 x3).kids = x3 := rfl
end Go.Proofs.Sh
