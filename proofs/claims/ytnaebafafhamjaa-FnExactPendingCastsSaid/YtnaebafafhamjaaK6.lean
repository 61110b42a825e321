/- Texts of the proof, one behind another. -/
import Derived.Test.YtnaebafafhamjaaK1
import Derived.Test.YtnaebafafhamjaaK5
set_option linter.unusedSimpArgs false
set_option linter.unusedVariables false
/- Terms: the program's checks, on shadows. -/
namespace Go.Proofs.Sh
open Go.Proofs.Grad
theorem bytes_nil (s : ByteArray) : (s.toList == ByteArray.toList { data := { toList := [] } }) = (s.size == 0) := by
  rw [Bool.eq_iff_iff, beq_iff_eq, beq_iff_eq]
  constructor
  · intro h; rw [bytes_ext h]; rfl
  · intro h; rw [bs_nil h]; rfl
theorem nm_iff (s : ByteArray) : nmOk s = (s.size == 1 && (match s[0]? with | some b => decide (97 ≤ (b.toNat : Int)) && decide ((b.toNat : Int) ≤ 122) | none => false)) := rfl
@[go_sem] theorem opN_1 : opN 1 = 0 := rfl
@[go_sem] theorem opN_2 : opN 2 = 0 := rfl
@[go_sem] theorem opN_3 : opN 3 = 0 := rfl
@[go_sem] theorem opN_4 : opN 4 = 0 := rfl
@[go_sem] theorem opN_5 : opN 5 = 1 := rfl
@[go_sem] theorem opN_6 : opN 6 = 2 := rfl
@[go_sem] theorem opN_7 : opN 7 = 2 := rfl
@[go_sem] theorem opN_8 : opN 8 = 2 := rfl
@[go_sem] theorem opN_9 : opN 9 = 3 := rfl
@[go_sem] theorem opN_10 : opN 10 = 2 := rfl
@[go_sem] theorem opN_11 : opN 11 = 1 := rfl
@[go_sem] theorem opN_12 : opN 12 = 1 := rfl
@[go_sem] theorem opN_13 : opN 13 = 1 := rfl
@[go_sem] theorem opN_14 : opN 14 = 1 := rfl
theorem kinds {k : Int} (h : 1 ≤ k ∧ k ≤ 14) : k = 1 ∨ k = 2 ∨ k = 3 ∨ k = 4 ∨ k = 5 ∨ k = 6 ∨ k = 7 ∨ k = 8 ∨ k = 9 ∨ k = 10 ∨ k = 11 ∨ k = 12 ∨ k = 13 ∨ k = 14 := by omega
theorem opN_bound (k : Int) : opN k ≤ 3 := by unfold opN; repeat' (first | omega | split)
end Go.Proofs.Sh
namespace Go.Proofs.Grad
/-- what is asked of a node but for the number of its operands -/
noncomputable def Tm.ownOk (t : Tm) : Bool :=
  ((if t.kind = 1 ∨ t.kind = 5 then nmOk t.name else t.name.size == 0) &&
  ((decide (0 ≤ t.num) && decide (t.num ≤ if t.kind = 2 then 999 else 0)) &&
  ((if t.kind = 5 ∨ t.kind = 13 ∨ t.kind = 14 then t.type.valid else t.type.isNo) &&
  (if t.kind = 14 then onT T.cons t.frm t.type && lab t.label else t.frm.isNo && t.label == 0))))
theorem Tm.nodeOk_own (t : Tm) : t.nodeOk = (opN t.kind == (t.kids.length : Int) && t.ownOk) := rfl
end Go.Proofs.Grad
namespace Go.Proofs.Ytnaebafafhamjaa
open Go.RowKit Go.Proofs.Sh Go.Proofs.Grad
set_option maxRecDepth 100000
set_option maxHeartbeats 8000000
theorem iIsName (s : ByteArray) : AFn Try.prog 147 [.one (.sc (.string s))] (.one (.sc (.bool (nmOk s)))) := by
  rw [nm_iff]
  by_cases h : s.size = 1
  · have h0 : s[0]? = some s[0] := getElem?_pos s 0 (by omega)
    have h1 : ((s.size : Int) == 1) = true := by simp; omega
    have h2 : (s.size == 1) = true := by simp; omega
    rw [h0, h2]
    refine fn_in ?_; refine acl_in Try.func147 rfl isfn_147 (Nat.le_of_ble_eq_true rfl) (fun R hR => ?_); rw [Try.results147] at hR; refine wg_run ?_; (simp only [Try.f147, go_sem, h0, h1])
    repeat' (first | (simp only [go_sem, h0]) | ((first | refine wd_split _ (fun hb => ?_) (fun hb => ?_) | refine wd_nwant _ (fun hb => ?_) (fun hb => ?_) | refine wm_nwant _ (fun hb => ?_) (fun hb => ?_) | refine wd_want _ (fun hb => ?_) (fun hb => ?_) | refine wm_want _ (fun hb => ?_) (fun hb => ?_) | refine wt_nwant _ (fun hb => ?_) (fun hb => ?_) | refine wt_want _ (fun hb => ?_) (fun hb => ?_)) <;> (simp only [go_sem, hb, h0])) | (refine wm_done ?_; (simp only [go_sem, h0])) | (refine wt_done ?_; (simp only [go_sem, h0])) | (refine wg_run ?_; (simp only [go_sem, h0])) | (refine wt_fork (by (simp only [go_sem]); first | done | rfl) ?_ ?_ <;> (simp only [go_sem, h0])))
    all_goals (refine hR _ (ret_at [] (by (simp only [go_sem]); first | done | rfl) (by (simp only [go_sem]); first | done | rfl) ⟨?_, rfl⟩))
    all_goals simp_all
    all_goals (try (intros; omega))
  · have h1 : ((s.size : Int) == 1) = false := by simp; omega
    have h2 : (s.size == 1) = false := by simp; omega
    rw [h2]
    refine fn_in ?_; refine acl_in Try.func147 rfl isfn_147 (Nat.le_of_ble_eq_true rfl) (fun R hR => ?_); rw [Try.results147] at hR; refine wg_run ?_; (simp only [Try.f147, go_sem, h1])
    repeat' (first | ((first | refine wd_split _ (fun hb => ?_) (fun hb => ?_) | refine wd_nwant _ (fun hb => ?_) (fun hb => ?_) | refine wm_nwant _ (fun hb => ?_) (fun hb => ?_) | refine wd_want _ (fun hb => ?_) (fun hb => ?_) | refine wm_want _ (fun hb => ?_) (fun hb => ?_) | refine wt_nwant _ (fun hb => ?_) (fun hb => ?_) | refine wt_want _ (fun hb => ?_) (fun hb => ?_)) <;> (simp only [go_sem, hb])) | (refine wm_done ?_; (simp only [go_sem])) | (refine wt_done ?_; (simp only [go_sem])) | (refine wg_run ?_; (simp only [go_sem])) | (refine wt_fork (by (simp only [go_sem]); first | done | rfl) ?_ ?_ <;> (simp only [go_sem])))
    all_goals (refine hR _ (ret_at [] (by (simp only [go_sem]); first | done | rfl) (by (simp only [go_sem]); first | done | rfl) ⟨?_, rfl⟩))
    all_goals simp_all
theorem iIsNo (t : Ty) : AFn Try.prog 149 [.agg (tyC t)] (.one (.sc (.bool t.isNo))) := by
  have e : t.isNo = (t.kind == 0 && ((t.kids.length : Int) == 0)) := by
    simp only [Ty.isNo]; congr 1; rw [Bool.eq_iff_iff]; simp
  rw [e]
  refine fn_in ?_; refine acl_in Try.func149 rfl isfn_149 (Nat.le_of_ble_eq_true rfl) (fun R hR => ?_); rw [Try.results149] at hR; refine wg_run ?_; (simp only [Try.f149, go_sem])
  repeat' (first | ((first | refine wd_split _ (fun hb => ?_) (fun hb => ?_) | refine wd_nwant _ (fun hb => ?_) (fun hb => ?_) | refine wm_nwant _ (fun hb => ?_) (fun hb => ?_) | refine wd_want _ (fun hb => ?_) (fun hb => ?_) | refine wm_want _ (fun hb => ?_) (fun hb => ?_) | refine wt_nwant _ (fun hb => ?_) (fun hb => ?_) | refine wt_want _ (fun hb => ?_) (fun hb => ?_)) <;> (simp only [go_sem, hb])) | (refine wm_done ?_; (simp only [go_sem])) | (refine wt_done ?_; (simp only [go_sem])) | (refine wg_run ?_; (simp only [go_sem])) | (refine wt_fork (by (simp only [go_sem]); first | done | rfl) ?_ ?_ <;> (simp only [go_sem])))
  all_goals (refine hR _ (ret_at [] (by (simp only [go_sem]); first | done | rfl) (by (simp only [go_sem]); first | done | rfl) ⟨?_, rfl⟩))
  all_goals simp_all
theorem iOperands (k : Int) : AFn Try.prog 146 [.one (.sc (.int .i64 k))] (.one (.sc (.int .i64 (opN k)))) := by
  have hw := within k 1 14
  by_cases h : 1 ≤ k ∧ k ≤ 14
  · obtain rfl | rfl | rfl | rfl | rfl | rfl | rfl | rfl | rfl | rfl | rfl | rfl | rfl | rfl := kinds h
    all_goals
      refine fn_in ?_; refine acl_in Try.func146 rfl isfn_146 (Nat.le_of_ble_eq_true rfl) (fun R hR => ?_); rw [Try.results146] at hR; refine wg_run ?_; (simp only [Try.f146, go_sem])
      repeat' (first | (first | ((first | refine wd_split _ (fun hb => ?_) (fun hb => ?_) | refine wd_nwant _ (fun hb => ?_) (fun hb => ?_) | refine wm_nwant _ (fun hb => ?_) (fun hb => ?_) | refine wd_want _ (fun hb => ?_) (fun hb => ?_) | refine wm_want _ (fun hb => ?_) (fun hb => ?_) | refine wt_nwant _ (fun hb => ?_) (fun hb => ?_) | refine wt_want _ (fun hb => ?_) (fun hb => ?_)) <;> (simp only [go_sem, hb])) | (refine wm_done ?_; (simp only [go_sem])) | (refine wt_done ?_; (simp only [go_sem])) | (refine wg_run ?_; (simp only [go_sem])) | (refine wt_fork (by (simp only [go_sem]); first | done | rfl) ?_ ?_ <;> (simp only [go_sem]))) | (first | refine wd_fn (by (simp only [go_sem]); first | done | rfl) (hw) ?_ | refine wm_fn (by (simp only [go_sem]); first | done | rfl) (hw) (by (simp only [go_sem]); first | done | rfl) (by (simp only [go_sem]); first | done | rfl) ?_ | refine wt_fn (by (simp only [go_sem]); first | done | rfl) (hw) (by (simp only [go_sem]); first | done | rfl) (by (simp only [go_sem]); first | done | rfl) ?_); (simp only [go_sem]))
      (refine hR _ (ret_at [] (by (simp only [go_sem]); first | done | rfl) (by (simp only [go_sem]); first | done | rfl) ⟨?_, rfl⟩))
      rfl
  · have hf : (decide (1 ≤ k) && decide (k ≤ 14)) = false := by simp; omega
    rw [hf] at hw
    refine fn_in ?_; refine acl_in Try.func146 rfl isfn_146 (Nat.le_of_ble_eq_true rfl) (fun R hR => ?_); rw [Try.results146] at hR; refine wg_run ?_; (simp only [Try.f146, go_sem])
    repeat' (first | (first | ((first | refine wd_split _ (fun hb => ?_) (fun hb => ?_) | refine wd_nwant _ (fun hb => ?_) (fun hb => ?_) | refine wm_nwant _ (fun hb => ?_) (fun hb => ?_) | refine wd_want _ (fun hb => ?_) (fun hb => ?_) | refine wm_want _ (fun hb => ?_) (fun hb => ?_) | refine wt_nwant _ (fun hb => ?_) (fun hb => ?_) | refine wt_want _ (fun hb => ?_) (fun hb => ?_)) <;> (simp only [go_sem, hb])) | (refine wm_done ?_; (simp only [go_sem])) | (refine wt_done ?_; (simp only [go_sem])) | (refine wg_run ?_; (simp only [go_sem])) | (refine wt_fork (by (simp only [go_sem]); first | done | rfl) ?_ ?_ <;> (simp only [go_sem]))) | (first | refine wd_fn (by (simp only [go_sem]); first | done | rfl) (hw) ?_ | refine wm_fn (by (simp only [go_sem]); first | done | rfl) (hw) (by (simp only [go_sem]); first | done | rfl) (by (simp only [go_sem]); first | done | rfl) ?_ | refine wt_fn (by (simp only [go_sem]); first | done | rfl) (hw) (by (simp only [go_sem]); first | done | rfl) (by (simp only [go_sem]); first | done | rfl) ?_); (simp only [go_sem]))
    (refine hR _ (ret_at [] (by (simp only [go_sem]); first | done | rfl) (by (simp only [go_sem]); first | done | rfl) ⟨?_, rfl⟩))
    rcases opN_cases k with h' | h'
    · exact absurd h' h
    · rw [h']
theorem iNodeOk (t : Tm) : AFn Try.prog 112 [.agg (teC t)] (.one (.sc (.bool t.nodeOk))) := by
  have ho := iOperands t.kind
  have hn := iIsName t.name
  have ht := iValid t.type
  have ht0 := iIsNo t.type
  have hf0 := iIsNo t.frm
  have hc := iConsistent t.frm t.type
  have hl := isLabel t.label
  rw [Tm.nodeOk_own]
  by_cases hlen : opN t.kind = (t.kids.length : Int)
  · have hk : 1 ≤ t.kind ∧ t.kind ≤ 14 := by
      rcases opN_cases t.kind with h | h
      · exact h
      · rw [h] at hlen; omega
    rw [← hlen, beq_self_eq_true, Bool.true_and]
    unfold Tm.ownOk
    obtain h | h | h | h | h | h | h | h | h | h | h | h | h | h := kinds hk
    all_goals rw [h] at hlen ho ⊢
    all_goals simp only [Int.reduceEq, or_true, true_or, or_false, or_self, if_true, if_false, reduceIte, opN_1, opN_2, opN_3, opN_4, opN_5, opN_6, opN_7, opN_8, opN_9, opN_10, opN_11, opN_12, opN_13, opN_14] at hlen ho ⊢
    all_goals
      refine fn_in ?_; refine acl_in Try.func112 rfl isfn_112 (Nat.le_of_ble_eq_true rfl) (fun R hR => ?_); rw [Try.results112] at hR; refine wg_run ?_; (simp only [Try.f112, go_sem, h])
      repeat' (first | (first | (simp only [go_sem, h, ← hlen, bytes_nil, int_bne]) | ((first | refine wd_split _ (fun hb => ?_) (fun hb => ?_) | refine wd_nwant _ (fun hb => ?_) (fun hb => ?_) | refine wm_nwant _ (fun hb => ?_) (fun hb => ?_) | refine wd_want _ (fun hb => ?_) (fun hb => ?_) | refine wm_want _ (fun hb => ?_) (fun hb => ?_) | refine wt_nwant _ (fun hb => ?_) (fun hb => ?_) | refine wt_want _ (fun hb => ?_) (fun hb => ?_)) <;> (simp only [go_sem, hb, h, ← hlen, bytes_nil, int_bne])) | (refine wm_done ?_; (simp only [go_sem, h, ← hlen, bytes_nil, int_bne])) | (refine wt_done ?_; (simp only [go_sem, h, ← hlen, bytes_nil, int_bne])) | (refine wg_run ?_; (simp only [go_sem, h, ← hlen, bytes_nil, int_bne])) | (refine wt_fork (by (simp only [go_sem]); first | done | rfl) ?_ ?_ <;> (simp only [go_sem, h, ← hlen, bytes_nil, int_bne]))) | ((first | refine wd_mix 6 [] follows (by decide +kernel) (by (simp only [go_sem]); first | done | rfl) ?_ | refine wd_mix 5 [] follows (by decide +kernel) (by (simp only [go_sem]); first | done | rfl) ?_ | refine wd_mix 4 [] follows (by decide +kernel) (by (simp only [go_sem]); first | done | rfl) ?_ | refine wd_mix 3 [] follows (by decide +kernel) (by (simp only [go_sem]); first | done | rfl) ?_ | refine wd_mix 2 [] follows (by decide +kernel) (by (simp only [go_sem]); first | done | rfl) ?_ | refine wd_mix 1 [] follows (by decide +kernel) (by (simp only [go_sem]); first | done | rfl) ?_ | refine wd_mix 0 [] follows (by decide +kernel) (by (simp only [go_sem]); first | done | rfl) ?_ | fail); (simp only [go_sem, h, ← hlen, bytes_nil, int_bne])) | (first | refine wd_fn (by (simp only [go_sem]); first | done | rfl) (ho) ?_ | refine wm_fn (by (simp only [go_sem]); first | done | rfl) (ho) (by (simp only [go_sem]); first | done | rfl) (by (simp only [go_sem]); first | done | rfl) ?_ | refine wt_fn (by (simp only [go_sem]); first | done | rfl) (ho) (by (simp only [go_sem]); first | done | rfl) (by (simp only [go_sem]); first | done | rfl) ?_); (simp only [go_sem]) | (first | refine wd_fn (by (simp only [go_sem]); first | done | rfl) (hn) ?_ | refine wm_fn (by (simp only [go_sem]); first | done | rfl) (hn) (by (simp only [go_sem]); first | done | rfl) (by (simp only [go_sem]); first | done | rfl) ?_ | refine wt_fn (by (simp only [go_sem]); first | done | rfl) (hn) (by (simp only [go_sem]); first | done | rfl) (by (simp only [go_sem]); first | done | rfl) ?_); (simp only [go_sem]) | (first | refine wd_fn (by (simp only [go_sem]); first | done | rfl) (within _ _ _) ?_ | refine wm_fn (by (simp only [go_sem]); first | done | rfl) (within _ _ _) (by (simp only [go_sem]); first | done | rfl) (by (simp only [go_sem]); first | done | rfl) ?_ | refine wt_fn (by (simp only [go_sem]); first | done | rfl) (within _ _ _) (by (simp only [go_sem]); first | done | rfl) (by (simp only [go_sem]); first | done | rfl) ?_); (simp only [go_sem]) | (first | refine wd_fn (by (simp only [go_sem]); first | done | rfl) (ht) ?_ | refine wm_fn (by (simp only [go_sem]); first | done | rfl) (ht) (by (simp only [go_sem]); first | done | rfl) (by (simp only [go_sem]); first | done | rfl) ?_ | refine wt_fn (by (simp only [go_sem]); first | done | rfl) (ht) (by (simp only [go_sem]); first | done | rfl) (by (simp only [go_sem]); first | done | rfl) ?_); (simp only [go_sem]) | (first | refine wd_fn (by (simp only [go_sem]); first | done | rfl) (ht0) ?_ | refine wm_fn (by (simp only [go_sem]); first | done | rfl) (ht0) (by (simp only [go_sem]); first | done | rfl) (by (simp only [go_sem]); first | done | rfl) ?_ | refine wt_fn (by (simp only [go_sem]); first | done | rfl) (ht0) (by (simp only [go_sem]); first | done | rfl) (by (simp only [go_sem]); first | done | rfl) ?_); (simp only [go_sem]) | (first | refine wd_fn (by (simp only [go_sem]); first | done | rfl) (hf0) ?_ | refine wm_fn (by (simp only [go_sem]); first | done | rfl) (hf0) (by (simp only [go_sem]); first | done | rfl) (by (simp only [go_sem]); first | done | rfl) ?_ | refine wt_fn (by (simp only [go_sem]); first | done | rfl) (hf0) (by (simp only [go_sem]); first | done | rfl) (by (simp only [go_sem]); first | done | rfl) ?_); (simp only [go_sem]) | (first | refine wd_fn (by (simp only [go_sem]); first | done | rfl) (hc) ?_ | refine wm_fn (by (simp only [go_sem]); first | done | rfl) (hc) (by (simp only [go_sem]); first | done | rfl) (by (simp only [go_sem]); first | done | rfl) ?_ | refine wt_fn (by (simp only [go_sem]); first | done | rfl) (hc) (by (simp only [go_sem]); first | done | rfl) (by (simp only [go_sem]); first | done | rfl) ?_); (simp only [go_sem]) | (first | refine wd_fn (by (simp only [go_sem]); first | done | rfl) (hl) ?_ | refine wm_fn (by (simp only [go_sem]); first | done | rfl) (hl) (by (simp only [go_sem]); first | done | rfl) (by (simp only [go_sem]); first | done | rfl) ?_ | refine wt_fn (by (simp only [go_sem]); first | done | rfl) (hl) (by (simp only [go_sem]); first | done | rfl) (by (simp only [go_sem]); first | done | rfl) ?_); (simp only [go_sem]))
      all_goals (refine hR _ (ret_at [] (by (simp only [go_sem]); first | done | rfl) (by (simp only [go_sem]); first | done | rfl) ⟨?_, rfl⟩))
      all_goals clear hR ho hn ht ht0 hf0 hc hl
      all_goals simp_all
      all_goals (try grind)
  · have hb0 : (opN t.kind == (t.kids.length : Int)) = false := by simp [hlen]
    rw [hb0]
    refine fn_in ?_; refine acl_in Try.func112 rfl isfn_112 (Nat.le_of_ble_eq_true rfl) (fun R hR => ?_); rw [Try.results112] at hR; refine wg_run ?_; (simp only [Try.f112, go_sem])
    repeat' (first | (first | (simp only [go_sem, hb0, int_bne]) | ((first | refine wd_split _ (fun hb => ?_) (fun hb => ?_) | refine wd_nwant _ (fun hb => ?_) (fun hb => ?_) | refine wm_nwant _ (fun hb => ?_) (fun hb => ?_) | refine wd_want _ (fun hb => ?_) (fun hb => ?_) | refine wm_want _ (fun hb => ?_) (fun hb => ?_) | refine wt_nwant _ (fun hb => ?_) (fun hb => ?_) | refine wt_want _ (fun hb => ?_) (fun hb => ?_)) <;> (simp only [go_sem, hb, hb0, int_bne])) | (refine wm_done ?_; (simp only [go_sem, hb0, int_bne])) | (refine wt_done ?_; (simp only [go_sem, hb0, int_bne])) | (refine wg_run ?_; (simp only [go_sem, hb0, int_bne])) | (refine wt_fork (by (simp only [go_sem]); first | done | rfl) ?_ ?_ <;> (simp only [go_sem, hb0, int_bne]))) | ((first | refine wd_mix 6 [] follows (by decide +kernel) (by (simp only [go_sem]); first | done | rfl) ?_ | refine wd_mix 5 [] follows (by decide +kernel) (by (simp only [go_sem]); first | done | rfl) ?_ | refine wd_mix 4 [] follows (by decide +kernel) (by (simp only [go_sem]); first | done | rfl) ?_ | refine wd_mix 3 [] follows (by decide +kernel) (by (simp only [go_sem]); first | done | rfl) ?_ | refine wd_mix 2 [] follows (by decide +kernel) (by (simp only [go_sem]); first | done | rfl) ?_ | refine wd_mix 1 [] follows (by decide +kernel) (by (simp only [go_sem]); first | done | rfl) ?_ | refine wd_mix 0 [] follows (by decide +kernel) (by (simp only [go_sem]); first | done | rfl) ?_ | fail); (simp only [go_sem, hb0, int_bne])) | (first | refine wd_fn (by (simp only [go_sem]); first | done | rfl) (ho) ?_ | refine wm_fn (by (simp only [go_sem]); first | done | rfl) (ho) (by (simp only [go_sem]); first | done | rfl) (by (simp only [go_sem]); first | done | rfl) ?_ | refine wt_fn (by (simp only [go_sem]); first | done | rfl) (ho) (by (simp only [go_sem]); first | done | rfl) (by (simp only [go_sem]); first | done | rfl) ?_); (simp only [go_sem]))
    (refine hR _ (ret_at [] (by (simp only [go_sem]); first | done | rfl) (by (simp only [go_sem]); first | done | rfl) ⟨rfl, rfl⟩))
end Go.Proofs.Ytnaebafafhamjaa
/- Terms: validity in the program, on shadows. -/
namespace Go.Proofs.Grad
theorem Tm.nodess_take {l : List Tm} {k : Nat} (h : k < l.length) : Tm.nodess (l.take (k + 1)) = Tm.nodess (l.take k) + (Sh.teKid l k).nodes := by
  rw [Sh.tetake_kid h]
  induction l.take k with
  | nil => simp [Tm.nodess]
  | cons x m ih => simp only [List.cons_append, Tm.nodess, ih]; omega
theorem Tm.nodess_le_take (l : List Tm) : ∀ k, Tm.nodess (l.take k) ≤ Tm.nodess l := by
  induction l with
  | nil => intro k; simp [Tm.nodess]
  | cons x l ih => intro k; cases k with
    | zero => simp [Tm.nodess]
    | succ k => have := ih k; simp only [List.take_succ_cons, Tm.nodess]; omega
theorem Tm.shape_succ (no : Int) (m : Nat) (t : Tm) : t.shape no (m + 1) = (!(t.kind == no) && (t.nodeOk && t.kids.all (Tm.shape no m))) := rfl
theorem Tm.nodeOk_len {t : Tm} (h : t.nodeOk = true) : t.kids.length ≤ 3 := by
  rw [Tm.nodeOk_own, Bool.and_eq_true, beq_iff_eq] at h
  have := Sh.opN_bound t.kind
  omega
end Go.Proofs.Grad
namespace Go.Proofs.Ytnaebafafhamjaa
open Go.RowKit Go.Proofs.Sh Go.Proofs.Grad
set_option maxRecDepth 100000
set_option maxHeartbeats 8000000
theorem iScanT (no : Int) (most D : Nat) (hmost : most ≤ 100000) (hD : D ≤ 100) (m : Nat) (hm : m ≤ D) : ∀ (t : Tm) (c : Nat), c ≤ most → ACl Try.prog 69 [.agg (teC t), .one (.sc (.int .i64 ((D : Int) + 1 - (m : Int)))), .one (.sc (.int .i64 (most : Nat))), .one (.sc (.int .i64 (D : Nat))), .one (.sc (.int .i64 no)), .one (.ptr 1 0 0 0)] [⟨1, 3, .mut, [[.sc (.int .i64 (c : Nat))]]⟩]
    (fun r H' => ∃ (b : Bool) (c' : Nat), r = .one (.sc (.bool b)) ∧ H' = [⟨1, 3, .mut, [[.sc (.int .i64 (c' : Nat))]]⟩] ∧ b = (t.shape no m && decide (c + t.nodes ≤ most)) ∧ (b = true → c' = c + t.nodes)) := by
  induction m with
  | zero =>
    intro t c hc
    have hw : IntKind.i64.wrap ((c : Int) + 1) = ((c + 1 : Nat) : Int) := by rw [IntWalk.i64_in _ (by omega)]; omega
    have hd : decide ((D : Int) + 1 - ((0 : Nat) : Int) > (D : Int)) = true := by simp; omega
    simp only [Int.natCast_zero] at hd ⊢
    refine acl_in Try.func69 rfl isfn_69 (Nat.le_of_ble_eq_true rfl) (fun R hR => ?_); rw [Try.results69] at hR; refine wg_run ?_; (simp only [Try.f69, go_sem, hw])
    repeat' (first | (simp only [go_sem, hd]) | ((first | refine wd_split _ (fun hb => ?_) (fun hb => ?_) | refine wd_nwant _ (fun hb => ?_) (fun hb => ?_) | refine wm_nwant _ (fun hb => ?_) (fun hb => ?_) | refine wd_want _ (fun hb => ?_) (fun hb => ?_) | refine wm_want _ (fun hb => ?_) (fun hb => ?_) | refine wt_nwant _ (fun hb => ?_) (fun hb => ?_) | refine wt_want _ (fun hb => ?_) (fun hb => ?_)) <;> (simp only [go_sem, hb, hd])) | (refine wm_done ?_; (simp only [go_sem, hd])) | (refine wt_done ?_; (simp only [go_sem, hd])) | (refine wg_run ?_; (simp only [go_sem, hd])) | (refine wt_fork (by (simp only [go_sem]); first | done | rfl) ?_ ?_ <;> (simp only [go_sem, hd])))
    all_goals refine hR _ (ret_at [] (by (simp only [go_sem]); first | done | rfl) (by (simp only [go_sem]); first | done | rfl) ⟨false, _, rfl, rfl, ?_, by simp⟩)
    all_goals rfl
  | succ m ih =>
    intro t c hc
    have hw : IntKind.i64.wrap ((c : Int) + 1) = ((c + 1 : Nat) : Int) := by rw [IntWalk.i64_in _ (by omega)]; omega
    have hd : decide ((D : Int) + 1 - ((m + 1 : Nat) : Int) > (D : Int)) = false := by simp; omega
    have hw2 : IntKind.i64.wrap ((D : Int) + 1 - ((m + 1 : Nat) : Int) + 1) = (D : Int) + 1 - (m : Int) := by rw [IntWalk.i64_in _ (by omega)]; omega
    have hno := iNodeOk t
    have hnodes := t.nodes_eq
    by_cases hover : c + 1 ≤ most
    · have ho : decide (((c + 1 : Nat) : Int) > (most : Int)) = false := by simp; omega
      cases hk : (t.kind == no)
      · cases hok : t.nodeOk
        · rw [hok] at hno
          have he : t.shape no (m + 1) = false := by rw [Tm.shape_succ, hok]; simp
          rw [he]
          refine acl_in Try.func69 rfl isfn_69 (Nat.le_of_ble_eq_true rfl) (fun R hR => ?_); rw [Try.results69] at hR; refine wg_run ?_; (simp only [Try.f69, go_sem, hw])
          repeat' (first | (first | (simp only [go_sem, hd, ho, hk]) | ((first | refine wd_split _ (fun hb => ?_) (fun hb => ?_) | refine wd_nwant _ (fun hb => ?_) (fun hb => ?_) | refine wm_nwant _ (fun hb => ?_) (fun hb => ?_) | refine wd_want _ (fun hb => ?_) (fun hb => ?_) | refine wm_want _ (fun hb => ?_) (fun hb => ?_) | refine wt_nwant _ (fun hb => ?_) (fun hb => ?_) | refine wt_want _ (fun hb => ?_) (fun hb => ?_)) <;> (simp only [go_sem, hb, hd, ho, hk])) | (refine wm_done ?_; (simp only [go_sem, hd, ho, hk])) | (refine wt_done ?_; (simp only [go_sem, hd, ho, hk])) | (refine wg_run ?_; (simp only [go_sem, hd, ho, hk])) | (refine wt_fork (by (simp only [go_sem]); first | done | rfl) ?_ ?_ <;> (simp only [go_sem, hd, ho, hk]))) | (first | refine wd_fn (by (simp only [go_sem]); first | done | rfl) (hno) ?_ | refine wm_fn (by (simp only [go_sem]); first | done | rfl) (hno) (by (simp only [go_sem]); first | done | rfl) (by (simp only [go_sem]); first | done | rfl) ?_ | refine wt_fn (by (simp only [go_sem]); first | done | rfl) (hno) (by (simp only [go_sem]); first | done | rfl) (by (simp only [go_sem]); first | done | rfl) ?_); (simp only [go_sem]))
          refine hR _ (ret_at [] (by (simp only [go_sem]); first | done | rfl) (by (simp only [go_sem]); first | done | rfl) ⟨false, _, rfl, rfl, rfl, by simp⟩)
        · rw [hok] at hno
          have hlen := Tm.nodeOk_len hok
          have he : t.shape no (m + 1) = t.kids.all (Tm.shape no m) := by rw [Tm.shape_succ, hok, hk]; simp
          rw [he]
          have ih := ih (by omega)
          refine acl_in Try.func69 rfl isfn_69 (Nat.le_of_ble_eq_true rfl) (fun R hR => ?_); rw [Try.results69] at hR; refine wg_run ?_; (simp only [Try.f69, go_sem, hw])
          repeat' (first | (first | (simp only [go_sem, hd, ho, hk]) | ((first | refine wd_split _ (fun hb => ?_) (fun hb => ?_) | refine wd_nwant _ (fun hb => ?_) (fun hb => ?_) | refine wm_nwant _ (fun hb => ?_) (fun hb => ?_) | refine wd_want _ (fun hb => ?_) (fun hb => ?_) | refine wm_want _ (fun hb => ?_) (fun hb => ?_) | refine wt_nwant _ (fun hb => ?_) (fun hb => ?_) | refine wt_want _ (fun hb => ?_) (fun hb => ?_)) <;> (simp only [go_sem, hb, hd, ho, hk])) | (refine wm_done ?_; (simp only [go_sem, hd, ho, hk])) | (refine wt_done ?_; (simp only [go_sem, hd, ho, hk])) | (refine wg_run ?_; (simp only [go_sem, hd, ho, hk])) | (refine wt_fork (by (simp only [go_sem]); first | done | rfl) ?_ ?_ <;> (simp only [go_sem, hd, ho, hk]))) | (first | refine wd_fn (by (simp only [go_sem]); first | done | rfl) (hno) ?_ | refine wm_fn (by (simp only [go_sem]); first | done | rfl) (hno) (by (simp only [go_sem]); first | done | rfl) (by (simp only [go_sem]); first | done | rfl) ?_ | refine wt_fn (by (simp only [go_sem]); first | done | rfl) (hno) (by (simp only [go_sem]); first | done | rfl) (by (simp only [go_sem]); first | done | rfl) ?_); (simp only [go_sem]))
          refine wd_for [1, 2, 3, 4, 5, 42, 43, 44] (fun k => [.one (.sc (.int .i64 ((D : Int) + 1 - ((m + 1 : Nat) : Int)))), .one (.sc (.int .i64 (most : Nat))), .one (.sc (.int .i64 (D : Nat))), .one (.sc (.int .i64 no)), .one (.ptr 1 0 0 0), .one (.sl (teR t.kids)), .one (.sc (.int .i64 t.kids.length)), .one (.sc (.int .i64 (k : Nat)))])
            (fun k => [⟨1, 3, .mut, [[.sc (.int .i64 ((c + 1 + Tm.nodess (t.kids.take k) : Nat) : Int))]]⟩])
            (fun k => k ≤ t.kids.length ∧ c + 1 + Tm.nodess (t.kids.take k) ≤ most ∧ (t.kids.drop k).all (Tm.shape no m) = t.kids.all (Tm.shape no m)) (fun k => t.kids.length - k) 0 ⟨Nat.zero_le _, by simp [Tm.nodess]; omega, rfl⟩ (head_at [] (by (simp only [go_sem]); first | done | rfl) (by (simp only [go_sem]); first | done | rfl) ⟨rfl, by simp [Tm.nodess]⟩) ?_
          rintro k ⟨hk0, hs, ha⟩ G hG
          refine wg_run ?_
          (simp only [go_sem])
          (first | refine wd_split _ (fun hb => ?_) (fun hb => ?_) | refine wd_nwant _ (fun hb => ?_) (fun hb => ?_) | refine wm_nwant _ (fun hb => ?_) (fun hb => ?_) | refine wd_want _ (fun hb => ?_) (fun hb => ?_) | refine wm_want _ (fun hb => ?_) (fun hb => ?_) | refine wt_nwant _ (fun hb => ?_) (fun hb => ?_) | refine wt_want _ (fun hb => ?_) (fun hb => ?_)) <;> (simp only [go_sem, hb])
          · have hk1 : k < t.kids.length := by have := of_decide_eq_true hb; omega
            have hw1 := wrap_succ hk1 (by omega)
            have hc := ih (teKid t.kids k) (c + 1 + Tm.nodess (t.kids.take k)) hs
            have hnt := Tm.nodess_take hk1
            have hle := Tm.nodess_le_take t.kids (k + 1)
            rw [tedrop_kid hk1, List.all_cons] at ha
            repeat' (first | (first | (simp only [go_sem, hw1, hw2, hb]) | ((first | refine wd_split _ (fun hb => ?_) (fun hb => ?_) | refine wd_nwant _ (fun hb => ?_) (fun hb => ?_) | refine wm_nwant _ (fun hb => ?_) (fun hb => ?_) | refine wd_want _ (fun hb => ?_) (fun hb => ?_) | refine wm_want _ (fun hb => ?_) (fun hb => ?_) | refine wt_nwant _ (fun hb => ?_) (fun hb => ?_) | refine wt_want _ (fun hb => ?_) (fun hb => ?_)) <;> (simp only [go_sem, hb, hw1, hw2, hb])) | (refine wm_done ?_; (simp only [go_sem, hw1, hw2, hb])) | (refine wt_done ?_; (simp only [go_sem, hw1, hw2, hb])) | (refine wg_run ?_; (simp only [go_sem, hw1, hw2, hb])) | (refine wt_fork (by (simp only [go_sem]); first | done | rfl) ?_ ?_ <;> (simp only [go_sem, hw1, hw2, hb]))) | ((first | refine wd_cl [0] (by (simp only [go_sem]); first | done | rfl) (hc) ?_ | refine wm_cl [0] (by (simp only [go_sem]); first | done | rfl) (hc) (by (simp only [go_sem]); first | done | rfl) (by (simp only [go_sem]); first | done | rfl) ?_ | refine wt_cl [0] (by (simp only [go_sem]); first | done | rfl) (hc) (by (simp only [go_sem]); first | done | rfl) (by (simp only [go_sem]); first | done | rfl) ?_); rintro _ _ ⟨b, c', rfl, rfl, hbq, hcq⟩ <;> (simp only [go_sem])))
            · have hb2 : b = true := by simpa using hb
              subst hb2
              have := hcq rfl
              subst this
              have hbq := hbq.symm
              rw [Bool.and_eq_true, decide_eq_true_eq] at hbq
              refine hG (k + 1) _ _ ⟨by omega, by omega, ?_⟩ (by omega) (head_at [] (by (simp only [go_sem]); first | done | rfl) (by (simp only [go_sem]); first | done | rfl) ⟨rfl, ?_⟩)
              · rw [← ha, hbq.1]; rfl
              · rw [hnt, Nat.add_assoc (c + 1)]
            · have hb2 : b = false := by simpa using hb
              subst hb2
              refine hR _ (ret_at [] (by (simp only [go_sem]); first | done | rfl) (by (simp only [go_sem]); first | done | rfl) ⟨false, _, rfl, rfl, ?_, by simp⟩)
              have hbq := hbq.symm
              rw [Bool.and_eq_false_iff] at hbq
              rcases hbq with h | h
              · rw [← ha, h]; rfl
              · have h := of_decide_eq_false h
                have : ¬ c + t.nodes ≤ most := by omega
                simp [this]
          · have hk1 : k = t.kids.length := by have := of_decide_eq_false hb; omega
            subst hk1
            rw [List.take_length] at hs
            rw [List.drop_length, List.all_nil] at ha
            refine hR _ (ret_at [] (by (simp only [go_sem]); first | done | rfl) (by (simp only [go_sem]); first | done | rfl) ⟨true, _, rfl, rfl, ?_, ?_⟩)
            · rw [← ha]
              have : c + t.nodes ≤ most := by omega
              simp [this]
            · intro _; rw [List.take_length]; omega
      · have he : t.shape no (m + 1) = false := by rw [Tm.shape_succ, hk]; simp
        rw [he]
        refine acl_in Try.func69 rfl isfn_69 (Nat.le_of_ble_eq_true rfl) (fun R hR => ?_); rw [Try.results69] at hR; refine wg_run ?_; (simp only [Try.f69, go_sem, hw])
        repeat' (first | (simp only [go_sem, hd, ho, hk]) | ((first | refine wd_split _ (fun hb => ?_) (fun hb => ?_) | refine wd_nwant _ (fun hb => ?_) (fun hb => ?_) | refine wm_nwant _ (fun hb => ?_) (fun hb => ?_) | refine wd_want _ (fun hb => ?_) (fun hb => ?_) | refine wm_want _ (fun hb => ?_) (fun hb => ?_) | refine wt_nwant _ (fun hb => ?_) (fun hb => ?_) | refine wt_want _ (fun hb => ?_) (fun hb => ?_)) <;> (simp only [go_sem, hb, hd, ho, hk])) | (refine wm_done ?_; (simp only [go_sem, hd, ho, hk])) | (refine wt_done ?_; (simp only [go_sem, hd, ho, hk])) | (refine wg_run ?_; (simp only [go_sem, hd, ho, hk])) | (refine wt_fork (by (simp only [go_sem]); first | done | rfl) ?_ ?_ <;> (simp only [go_sem, hd, ho, hk])))
        refine hR _ (ret_at [] (by (simp only [go_sem]); first | done | rfl) (by (simp only [go_sem]); first | done | rfl) ⟨false, _, rfl, rfl, rfl, by simp⟩)
    · have ho : decide (((c + 1 : Nat) : Int) > (most : Int)) = true := by simp; omega
      have he : decide (c + t.nodes ≤ most) = false := by simp; omega
      rw [he]
      refine acl_in Try.func69 rfl isfn_69 (Nat.le_of_ble_eq_true rfl) (fun R hR => ?_); rw [Try.results69] at hR; refine wg_run ?_; (simp only [Try.f69, go_sem, hw])
      repeat' (first | (simp only [go_sem, ho]) | ((first | refine wd_split _ (fun hb => ?_) (fun hb => ?_) | refine wd_nwant _ (fun hb => ?_) (fun hb => ?_) | refine wm_nwant _ (fun hb => ?_) (fun hb => ?_) | refine wd_want _ (fun hb => ?_) (fun hb => ?_) | refine wm_want _ (fun hb => ?_) (fun hb => ?_) | refine wt_nwant _ (fun hb => ?_) (fun hb => ?_) | refine wt_want _ (fun hb => ?_) (fun hb => ?_)) <;> (simp only [go_sem, hb, ho])) | (refine wm_done ?_; (simp only [go_sem, ho])) | (refine wt_done ?_; (simp only [go_sem, ho])) | (refine wg_run ?_; (simp only [go_sem, ho])) | (refine wt_fork (by (simp only [go_sem]); first | done | rfl) ?_ ?_ <;> (simp only [go_sem, ho])))
      refine hR _ (ret_at [] (by (simp only [go_sem]); first | done | rfl) (by (simp only [go_sem]); first | done | rfl) ⟨false, _, rfl, rfl, by simp, by simp⟩)
theorem iTermV (t : Tm) : AFn Try.prog 34 [.agg (teC t)] (.one (.sc (.bool t.termV))) := by
  have hc := iScanT 14 30 12 (by omega) (by omega) 12 (by omega) t 0 (by omega)
  have e1 : ((12 : Nat) : Int) + 1 - ((12 : Nat) : Int) = 1 := by omega
  rw [e1] at hc
  simp only [Int.cast_ofNat_Int, Int.natCast_zero] at hc
  refine fn_in ?_; refine acl_in Try.func34 rfl isfn_34 (Nat.le_of_ble_eq_true rfl) (fun R hR => ?_); rw [Try.results34] at hR; refine wg_run ?_; (simp only [Try.f34, go_sem])
  repeat' (first | (first | ((first | refine wd_split _ (fun hb => ?_) (fun hb => ?_) | refine wd_nwant _ (fun hb => ?_) (fun hb => ?_) | refine wm_nwant _ (fun hb => ?_) (fun hb => ?_) | refine wd_want _ (fun hb => ?_) (fun hb => ?_) | refine wm_want _ (fun hb => ?_) (fun hb => ?_) | refine wt_nwant _ (fun hb => ?_) (fun hb => ?_) | refine wt_want _ (fun hb => ?_) (fun hb => ?_)) <;> (simp only [go_sem, hb])) | (refine wm_done ?_; (simp only [go_sem])) | (refine wt_done ?_; (simp only [go_sem])) | (refine wg_run ?_; (simp only [go_sem])) | (refine wt_fork (by (simp only [go_sem]); first | done | rfl) ?_ ?_ <;> (simp only [go_sem]))) | ((first | refine wd_cl [1] (by (simp only [go_sem]); first | done | rfl) (hc) ?_ | refine wm_cl [1] (by (simp only [go_sem]); first | done | rfl) (hc) (by (simp only [go_sem]); first | done | rfl) (by (simp only [go_sem]); first | done | rfl) ?_ | refine wt_cl [1] (by (simp only [go_sem]); first | done | rfl) (hc) (by (simp only [go_sem]); first | done | rfl) (by (simp only [go_sem]); first | done | rfl) ?_); rintro _ _ ⟨b, c', rfl, rfl, hbq, hcq⟩ <;> (simp only [go_sem])))
  (refine hR _ (ret_at [] (by (simp only [go_sem]); first | done | rfl) (by (simp only [go_sem]); first | done | rfl) ⟨?_, rfl⟩))
  rw [hbq, Nat.zero_add]
  rfl
theorem iCastV (t : Tm) : AFn Try.prog 24 [.agg (teC t)] (.one (.sc (.bool t.castV))) := by
  have hc := iScanT 13 200 40 (by omega) (by omega) 40 (by omega) t 0 (by omega)
  have e1 : ((40 : Nat) : Int) + 1 - ((40 : Nat) : Int) = 1 := by omega
  rw [e1] at hc
  simp only [Int.cast_ofNat_Int, Int.natCast_zero] at hc
  refine fn_in ?_; refine acl_in Try.func24 rfl isfn_24 (Nat.le_of_ble_eq_true rfl) (fun R hR => ?_); rw [Try.results24] at hR; refine wg_run ?_; (simp only [Try.f24, go_sem])
  repeat' (first | (first | ((first | refine wd_split _ (fun hb => ?_) (fun hb => ?_) | refine wd_nwant _ (fun hb => ?_) (fun hb => ?_) | refine wm_nwant _ (fun hb => ?_) (fun hb => ?_) | refine wd_want _ (fun hb => ?_) (fun hb => ?_) | refine wm_want _ (fun hb => ?_) (fun hb => ?_) | refine wt_nwant _ (fun hb => ?_) (fun hb => ?_) | refine wt_want _ (fun hb => ?_) (fun hb => ?_)) <;> (simp only [go_sem, hb])) | (refine wm_done ?_; (simp only [go_sem])) | (refine wt_done ?_; (simp only [go_sem])) | (refine wg_run ?_; (simp only [go_sem])) | (refine wt_fork (by (simp only [go_sem]); first | done | rfl) ?_ ?_ <;> (simp only [go_sem]))) | ((first | refine wd_cl [1] (by (simp only [go_sem]); first | done | rfl) (hc) ?_ | refine wm_cl [1] (by (simp only [go_sem]); first | done | rfl) (hc) (by (simp only [go_sem]); first | done | rfl) (by (simp only [go_sem]); first | done | rfl) ?_ | refine wt_cl [1] (by (simp only [go_sem]); first | done | rfl) (hc) (by (simp only [go_sem]); first | done | rfl) (by (simp only [go_sem]); first | done | rfl) ?_); rintro _ _ ⟨b, c', rfl, rfl, hbq, hcq⟩ <;> (simp only [go_sem])))
  (refine hR _ (ret_at [] (by (simp only [go_sem]); first | done | rfl) (by (simp only [go_sem]); first | done | rfl) ⟨?_, rfl⟩))
  rw [hbq, Nat.zero_add]
  rfl
end Go.Proofs.Ytnaebafafhamjaa
/- Types: the relations of subtyping, on shadows. -/
namespace Go.Proofs.Sh
open Go.Proofs.Grad
@[go_sem] theorem ty_any_kind : T.any.ty.kind = 1 := rfl
@[go_sem] theorem ty_int_kind : T.int.ty.kind = 2 := rfl
@[go_sem] theorem ty_bool_kind : T.bool.ty.kind = 3 := rfl
@[go_sem] theorem ty_fn_kind (a b : T) : (T.fn a b).ty.kind = 4 := rfl
@[go_sem] theorem ty_pr_kind (a b : T) : (T.pr a b).ty.kind = 5 := rfl
@[go_sem] theorem ty_any_kids : T.any.ty.kids = [] := rfl
@[go_sem] theorem ty_int_kids : T.int.ty.kids = [] := rfl
@[go_sem] theorem ty_bool_kids : T.bool.ty.kids = [] := rfl
@[go_sem] theorem ty_fn_kids (a b : T) : (T.fn a b).ty.kids = [a.ty, b.ty] := rfl
@[go_sem] theorem ty_pr_kids (a b : T) : (T.pr a b).ty.kids = [a.ty, b.ty] := rfl
def subM (a b : T) : Nat := 2 * a.size + 2 * b.size + (match b with | .any => 5 | _ => 0)
attribute [go_sem] T.ground
end Go.Proofs.Sh
namespace Go.Proofs.Ytnaebafafhamjaa
open Go.RowKit Go.Proofs.Sh Go.Proofs.Grad
set_option maxRecDepth 100000
set_option maxHeartbeats 4000000
theorem l1Any : AFn Try.prog 87 [] (.agg (tyC T.any.ty)) := by
  refine fn_in ?_; refine acl_in Try.func87 rfl isfn_87 (Nat.le_of_ble_eq_true rfl) (fun R hR => ?_); rw [Try.results87] at hR; refine wg_run ?_; (simp only [Try.f87, go_sem])
  (refine hR _ (ret_at [] (by (simp only [go_sem]); first | done | rfl) (by (simp only [go_sem]); first | done | rfl) ⟨rfl, rfl⟩))
theorem l1Ground (a : T) : AFn Try.prog 176 [.agg (tyC a.ty)] (.agg (tyC a.ground.ty)) := by
  cases a
  all_goals
    refine fn_in ?_; refine acl_in Try.func176 rfl isfn_176 (Nat.le_of_ble_eq_true rfl) (fun R hR => ?_); rw [Try.results176] at hR; refine wg_run ?_; (simp only [Try.f176, go_sem])
    repeat' (first | (first | ((first | refine wd_split _ (fun hb => ?_) (fun hb => ?_) | refine wd_nwant _ (fun hb => ?_) (fun hb => ?_) | refine wm_nwant _ (fun hb => ?_) (fun hb => ?_) | refine wd_want _ (fun hb => ?_) (fun hb => ?_) | refine wm_want _ (fun hb => ?_) (fun hb => ?_) | refine wt_nwant _ (fun hb => ?_) (fun hb => ?_) | refine wt_want _ (fun hb => ?_) (fun hb => ?_)) <;> (simp only [go_sem, hb])) | (refine wm_done ?_; (simp only [go_sem])) | (refine wt_done ?_; (simp only [go_sem])) | (refine wg_run ?_; (simp only [go_sem])) | (refine wt_fork (by (simp only [go_sem]); first | done | rfl) ?_ ?_ <;> (simp only [go_sem]))) | (first | refine wd_fn (by (simp only [go_sem]); first | done | rfl) (l1Any) ?_ | refine wm_fn (by (simp only [go_sem]); first | done | rfl) (l1Any) (by (simp only [go_sem]); first | done | rfl) (by (simp only [go_sem]); first | done | rfl) ?_ | refine wt_fn (by (simp only [go_sem]); first | done | rfl) (l1Any) (by (simp only [go_sem]); first | done | rfl) (by (simp only [go_sem]); first | done | rfl) ?_); (simp only [go_sem]) | (first | (refine wl_next (wg_run ?_); (simp only [go_sem])) | refine wd_rounds 6 ?_) | ((first | refine wd_mix 6 [] follows (by decide +kernel) (by (simp only [go_sem]); first | done | rfl) ?_ | refine wd_mix 5 [] follows (by decide +kernel) (by (simp only [go_sem]); first | done | rfl) ?_ | refine wd_mix 4 [] follows (by decide +kernel) (by (simp only [go_sem]); first | done | rfl) ?_ | refine wd_mix 3 [] follows (by decide +kernel) (by (simp only [go_sem]); first | done | rfl) ?_ | refine wd_mix 2 [] follows (by decide +kernel) (by (simp only [go_sem]); first | done | rfl) ?_ | refine wd_mix 1 [] follows (by decide +kernel) (by (simp only [go_sem]); first | done | rfl) ?_ | refine wd_mix 0 [] follows (by decide +kernel) (by (simp only [go_sem]); first | done | rfl) ?_ | fail); (simp only [go_sem])))
    all_goals (refine hR _ (ret_at [] (by (simp only [go_sem]); first | done | rfl) (by (simp only [go_sem]); first | done | rfl) ⟨?_, rfl⟩))
    all_goals rfl
theorem subM_le (a b : T) : subM a b ≤ 2 * (a.size + b.size) + 5 := by unfold subM; split <;> omega
theorem le_subM (a b : T) : 2 * (a.size + b.size) ≤ subM a b := by unfold subM; split <;> omega
theorem base (k : Int) : AFn Try.prog 179 [.one (.sc (.int .i64 k))] (.agg (tyC (.mk k []))) := by
  refine fn_in ?_; refine acl_in Try.func179 rfl isfn_179 (Nat.le_of_ble_eq_true rfl) (fun R hR => ?_); rw [Try.results179] at hR; refine wg_run ?_; (simp only [Try.f179, go_sem])
  (refine hR _ (ret_at [] (by (simp only [go_sem]); first | done | rfl) (by (simp only [go_sem]); first | done | rfl) ⟨rfl, rfl⟩))
theorem both (k : Int) (a b : Ty) : AFn Try.prog 93 [.one (.sc (.int .i64 k)), .agg (tyC a), .agg (tyC b)] (.agg (tyC (.mk k [a, b]))) := by
  refine fn_in ?_; refine acl_in Try.func93 rfl isfn_93 (Nat.le_of_ble_eq_true rfl) (fun R hR => ?_); rw [Try.results93] at hR; refine wg_run ?_; (simp only [Try.f93, go_sem])
  (refine hR _ (ret_at [] (by (simp only [go_sem]); first | done | rfl) (by (simp only [go_sem]); first | done | rfl) ⟨rfl, rfl⟩))
theorem iGround (a : T) : AFn Try.prog 163 [.one (.sc (.int .i64 a.kind))] (.agg (tyC a.ground.ty)) := by
  rcases a with _ | _ | _ | ⟨a1, a2⟩ | ⟨a1, a2⟩
  all_goals
    simp only [T.kind]
    refine fn_in ?_; refine acl_in Try.func163 rfl isfn_163 (Nat.le_of_ble_eq_true rfl) (fun R hR => ?_); rw [Try.results163] at hR; refine wg_run ?_; (simp only [Try.f163, go_sem])
    repeat' (first | (first | ((first | refine wd_split _ (fun hb => ?_) (fun hb => ?_) | refine wd_nwant _ (fun hb => ?_) (fun hb => ?_) | refine wm_nwant _ (fun hb => ?_) (fun hb => ?_) | refine wd_want _ (fun hb => ?_) (fun hb => ?_) | refine wm_want _ (fun hb => ?_) (fun hb => ?_) | refine wt_nwant _ (fun hb => ?_) (fun hb => ?_) | refine wt_want _ (fun hb => ?_) (fun hb => ?_)) <;> (simp only [go_sem, hb])) | (refine wm_done ?_; (simp only [go_sem])) | (refine wt_done ?_; (simp only [go_sem])) | (refine wg_run ?_; (simp only [go_sem])) | (refine wt_fork (by (simp only [go_sem]); first | done | rfl) ?_ ?_ <;> (simp only [go_sem]))) | (first | refine wd_fn (by (simp only [go_sem]); first | done | rfl) (base _) ?_ | refine wm_fn (by (simp only [go_sem]); first | done | rfl) (base _) (by (simp only [go_sem]); first | done | rfl) (by (simp only [go_sem]); first | done | rfl) ?_ | refine wt_fn (by (simp only [go_sem]); first | done | rfl) (base _) (by (simp only [go_sem]); first | done | rfl) (by (simp only [go_sem]); first | done | rfl) ?_); (simp only [go_sem]) | (first | refine wd_fn (by (simp only [go_sem]); first | done | rfl) (both 4 T.any.ty T.any.ty) ?_ | refine wm_fn (by (simp only [go_sem]); first | done | rfl) (both 4 T.any.ty T.any.ty) (by (simp only [go_sem]); first | done | rfl) (by (simp only [go_sem]); first | done | rfl) ?_ | refine wt_fn (by (simp only [go_sem]); first | done | rfl) (both 4 T.any.ty T.any.ty) (by (simp only [go_sem]); first | done | rfl) (by (simp only [go_sem]); first | done | rfl) ?_); (simp only [go_sem]) | (first | refine wd_fn (by (simp only [go_sem]); first | done | rfl) (both 5 T.any.ty T.any.ty) ?_ | refine wm_fn (by (simp only [go_sem]); first | done | rfl) (both 5 T.any.ty T.any.ty) (by (simp only [go_sem]); first | done | rfl) (by (simp only [go_sem]); first | done | rfl) ?_ | refine wt_fn (by (simp only [go_sem]); first | done | rfl) (both 5 T.any.ty T.any.ty) (by (simp only [go_sem]); first | done | rfl) (by (simp only [go_sem]); first | done | rfl) ?_); (simp only [go_sem]) | ((first | refine wd_mix 6 [] follows (by decide +kernel) (by (simp only [go_sem]); first | done | rfl) ?_ | refine wd_mix 5 [] follows (by decide +kernel) (by (simp only [go_sem]); first | done | rfl) ?_ | refine wd_mix 4 [] follows (by decide +kernel) (by (simp only [go_sem]); first | done | rfl) ?_ | refine wd_mix 3 [] follows (by decide +kernel) (by (simp only [go_sem]); first | done | rfl) ?_ | refine wd_mix 2 [] follows (by decide +kernel) (by (simp only [go_sem]); first | done | rfl) ?_ | refine wd_mix 1 [] follows (by decide +kernel) (by (simp only [go_sem]); first | done | rfl) ?_ | refine wd_mix 0 [] follows (by decide +kernel) (by (simp only [go_sem]); first | done | rfl) ?_ | fail); (simp only [go_sem])))
  all_goals (refine hR _ (ret_at [] (by (simp only [go_sem]); first | done | rfl) (by (simp only [go_sem]); first | done | rfl) ⟨rfl, rfl⟩))
end Go.Proofs.Ytnaebafafhamjaa
/- Terms: the reference's checks, on shadows. -/
namespace Go.Proofs.Ytnaebafafhamjaa
open Go.RowKit Go.Proofs.Sh Go.Proofs.Grad
set_option maxRecDepth 100000
set_option maxHeartbeats 8000000
theorem l2Kids (k : Int) : AFn Try.prog 139 [.one (.sc (.int .i64 k))] (.one (.sc (.int .i64 (opN k)))) := by
  by_cases h : 1 ≤ k ∧ k ≤ 14
  · obtain rfl | rfl | rfl | rfl | rfl | rfl | rfl | rfl | rfl | rfl | rfl | rfl | rfl | rfl := kinds h
    all_goals
      refine fn_in ?_; refine acl_in Try.func139 rfl isfn_139 (Nat.le_of_ble_eq_true rfl) (fun R hR => ?_); rw [Try.results139] at hR; refine wg_run ?_; (simp only [Try.f139, go_sem])
      repeat' (first | ((first | refine wd_split _ (fun hb => ?_) (fun hb => ?_) | refine wd_nwant _ (fun hb => ?_) (fun hb => ?_) | refine wm_nwant _ (fun hb => ?_) (fun hb => ?_) | refine wd_want _ (fun hb => ?_) (fun hb => ?_) | refine wm_want _ (fun hb => ?_) (fun hb => ?_) | refine wt_nwant _ (fun hb => ?_) (fun hb => ?_) | refine wt_want _ (fun hb => ?_) (fun hb => ?_)) <;> (simp only [go_sem, hb])) | (refine wm_done ?_; (simp only [go_sem])) | (refine wt_done ?_; (simp only [go_sem])) | (refine wg_run ?_; (simp only [go_sem])) | (refine wt_fork (by (simp only [go_sem]); first | done | rfl) ?_ ?_ <;> (simp only [go_sem])))
      (refine hR _ (ret_at [] (by (simp only [go_sem]); first | done | rfl) (by (simp only [go_sem]); first | done | rfl) ⟨rfl, rfl⟩))
  · have e : ∀ n : Int, 1 ≤ n → n ≤ 14 → (k == n) = false := fun n h1 h2 => by rw [beq_eq_false_iff_ne]; omega
    have e1 := e 1 (by omega) (by omega); have e2 := e 2 (by omega) (by omega); have e3 := e 3 (by omega) (by omega); have e4 := e 4 (by omega) (by omega); have e5 := e 5 (by omega) (by omega); have e6 := e 6 (by omega) (by omega); have e7 := e 7 (by omega) (by omega)
    have e8 := e 8 (by omega) (by omega); have e9 := e 9 (by omega) (by omega); have e10 := e 10 (by omega) (by omega); have e11 := e 11 (by omega) (by omega); have e12 := e 12 (by omega) (by omega); have e13 := e 13 (by omega) (by omega); have e14 := e 14 (by omega) (by omega)
    have : opN k = -1 := by
      rcases opN_cases k with h' | h'
      · exact absurd h' h
      · exact h'
    rw [this]
    refine fn_in ?_; refine acl_in Try.func139 rfl isfn_139 (Nat.le_of_ble_eq_true rfl) (fun R hR => ?_); rw [Try.results139] at hR; refine wg_run ?_; (simp only [Try.f139, go_sem, e1, e2, e3, e4, e5, e6, e7, e8, e9, e10, e11, e12, e13, e14])
    repeat' (first | ((first | refine wd_split _ (fun hb => ?_) (fun hb => ?_) | refine wd_nwant _ (fun hb => ?_) (fun hb => ?_) | refine wm_nwant _ (fun hb => ?_) (fun hb => ?_) | refine wd_want _ (fun hb => ?_) (fun hb => ?_) | refine wm_want _ (fun hb => ?_) (fun hb => ?_) | refine wt_nwant _ (fun hb => ?_) (fun hb => ?_) | refine wt_want _ (fun hb => ?_) (fun hb => ?_)) <;> (simp only [go_sem, hb])) | (refine wm_done ?_; (simp only [go_sem])) | (refine wt_done ?_; (simp only [go_sem])) | (refine wg_run ?_; (simp only [go_sem])) | (refine wt_fork (by (simp only [go_sem]); first | done | rfl) ?_ ?_ <;> (simp only [go_sem])))
    (refine hR _ (ret_at [] (by (simp only [go_sem]); first | done | rfl) (by (simp only [go_sem]); first | done | rfl) ⟨rfl, rfl⟩))
theorem sName (s : ByteArray) : AFn Try.prog 170 [.one (.sc (.string s))] (.one (.sc (.bool (nmOk s)))) := by
  rw [nm_iff]
  by_cases h : s.size = 1
  · have h0 : s[0]? = some s[0] := getElem?_pos s 0 (by omega)
    have h1 : ((s.size : Int) == 1) = true := by simp; omega
    have h2 : (s.size == 1) = true := by simp; omega
    rw [h0, h2]
    refine fn_in ?_; refine acl_in Try.func170 rfl isfn_170 (Nat.le_of_ble_eq_true rfl) (fun R hR => ?_); rw [Try.results170] at hR; refine wg_run ?_; (simp only [Try.f170, go_sem, h0, h1])
    repeat' (first | (simp only [go_sem, h0]) | ((first | refine wd_split _ (fun hb => ?_) (fun hb => ?_) | refine wd_nwant _ (fun hb => ?_) (fun hb => ?_) | refine wm_nwant _ (fun hb => ?_) (fun hb => ?_) | refine wd_want _ (fun hb => ?_) (fun hb => ?_) | refine wm_want _ (fun hb => ?_) (fun hb => ?_) | refine wt_nwant _ (fun hb => ?_) (fun hb => ?_) | refine wt_want _ (fun hb => ?_) (fun hb => ?_)) <;> (simp only [go_sem, hb, h0])) | (refine wm_done ?_; (simp only [go_sem, h0])) | (refine wt_done ?_; (simp only [go_sem, h0])) | (refine wg_run ?_; (simp only [go_sem, h0])) | (refine wt_fork (by (simp only [go_sem]); first | done | rfl) ?_ ?_ <;> (simp only [go_sem, h0])))
    all_goals (refine hR _ (ret_at [] (by (simp only [go_sem]); first | done | rfl) (by (simp only [go_sem]); first | done | rfl) ⟨?_, rfl⟩))
    all_goals simp_all
    all_goals (try (intros; omega))
  · have h1 : ((s.size : Int) == 1) = false := by simp; omega
    have h2 : (s.size == 1) = false := by simp; omega
    rw [h2]
    refine fn_in ?_; refine acl_in Try.func170 rfl isfn_170 (Nat.le_of_ble_eq_true rfl) (fun R hR => ?_); rw [Try.results170] at hR; refine wg_run ?_; (simp only [Try.f170, go_sem, h1])
    repeat' (first | ((first | refine wd_split _ (fun hb => ?_) (fun hb => ?_) | refine wd_nwant _ (fun hb => ?_) (fun hb => ?_) | refine wm_nwant _ (fun hb => ?_) (fun hb => ?_) | refine wd_want _ (fun hb => ?_) (fun hb => ?_) | refine wm_want _ (fun hb => ?_) (fun hb => ?_) | refine wt_nwant _ (fun hb => ?_) (fun hb => ?_) | refine wt_want _ (fun hb => ?_) (fun hb => ?_)) <;> (simp only [go_sem, hb])) | (refine wm_done ?_; (simp only [go_sem])) | (refine wt_done ?_; (simp only [go_sem])) | (refine wg_run ?_; (simp only [go_sem])) | (refine wt_fork (by (simp only [go_sem]); first | done | rfl) ?_ ?_ <;> (simp only [go_sem])))
    all_goals (refine hR _ (ret_at [] (by (simp only [go_sem]); first | done | rfl) (by (simp only [go_sem]); first | done | rfl) ⟨?_, rfl⟩))
    all_goals simp_all
theorem sNone (t : Ty) : AFn Try.prog 171 [.agg (tyC t)] (.one (.sc (.bool t.isNo))) := by
  have e : t.isNo = (t.kind == 0 && ((t.kids.length : Int) == 0)) := by
    simp only [Ty.isNo]; congr 1; rw [Bool.eq_iff_iff]; simp
  rw [e]
  refine fn_in ?_; refine acl_in Try.func171 rfl isfn_171 (Nat.le_of_ble_eq_true rfl) (fun R hR => ?_); rw [Try.results171] at hR; refine wg_run ?_; (simp only [Try.f171, go_sem])
  repeat' (first | ((first | refine wd_split _ (fun hb => ?_) (fun hb => ?_) | refine wd_nwant _ (fun hb => ?_) (fun hb => ?_) | refine wm_nwant _ (fun hb => ?_) (fun hb => ?_) | refine wd_want _ (fun hb => ?_) (fun hb => ?_) | refine wm_want _ (fun hb => ?_) (fun hb => ?_) | refine wt_nwant _ (fun hb => ?_) (fun hb => ?_) | refine wt_want _ (fun hb => ?_) (fun hb => ?_)) <;> (simp only [go_sem, hb])) | (refine wm_done ?_; (simp only [go_sem])) | (refine wt_done ?_; (simp only [go_sem])) | (refine wg_run ?_; (simp only [go_sem])) | (refine wt_fork (by (simp only [go_sem]); first | done | rfl) ?_ ?_ <;> (simp only [go_sem])))
  all_goals (refine hR _ (ret_at [] (by (simp only [go_sem]); first | done | rfl) (by (simp only [go_sem]); first | done | rfl) ⟨?_, rfl⟩))
  all_goals simp_all
theorem nmOk_nil {s : ByteArray} (h : s.size = 0) : nmOk s = false := by rw [nm_iff, h]; rfl
theorem l2Own (t : Tm) (h1 : 1 ≤ t.kind) (h2 : t.kind ≤ 13) : AFn Try.prog 141 [.agg (teC t)] (.one (.sc (.bool t.ownOk))) := by
  have hn := sName t.name
  have ht := sValid t.type
  have ht0 := sNone t.type
  have hf0 := sNone t.frm
  unfold Tm.ownOk
  have hz : t.name.size = 0 → nmOk t.name = false := nmOk_nil
  obtain h | h | h | h | h | h | h | h | h | h | h | h | h | h := kinds (k := t.kind) ⟨h1, by omega⟩
  all_goals (try (exfalso; omega))
  all_goals rw [h] at ⊢
  all_goals simp only [Int.reduceEq, or_true, true_or, or_false, or_self, if_true, if_false, reduceIte]
  all_goals
    refine fn_in ?_; refine acl_in Try.func141 rfl isfn_141 (Nat.le_of_ble_eq_true rfl) (fun R hR => ?_); rw [Try.results141] at hR; refine wg_run ?_; (simp only [Try.f141, go_sem, h])
    repeat' (first | (first | (simp only [go_sem, h, bytes_nil, int_bne]) | ((first | refine wd_split _ (fun hb => ?_) (fun hb => ?_) | refine wd_nwant _ (fun hb => ?_) (fun hb => ?_) | refine wm_nwant _ (fun hb => ?_) (fun hb => ?_) | refine wd_want _ (fun hb => ?_) (fun hb => ?_) | refine wm_want _ (fun hb => ?_) (fun hb => ?_) | refine wt_nwant _ (fun hb => ?_) (fun hb => ?_) | refine wt_want _ (fun hb => ?_) (fun hb => ?_)) <;> (simp only [go_sem, hb, h, bytes_nil, int_bne])) | (refine wm_done ?_; (simp only [go_sem, h, bytes_nil, int_bne])) | (refine wt_done ?_; (simp only [go_sem, h, bytes_nil, int_bne])) | (refine wg_run ?_; (simp only [go_sem, h, bytes_nil, int_bne])) | (refine wt_fork (by (simp only [go_sem]); first | done | rfl) ?_ ?_ <;> (simp only [go_sem, h, bytes_nil, int_bne]))) | ((first | refine wd_mix 6 [] follows (by decide +kernel) (by (simp only [go_sem]); first | done | rfl) ?_ | refine wd_mix 5 [] follows (by decide +kernel) (by (simp only [go_sem]); first | done | rfl) ?_ | refine wd_mix 4 [] follows (by decide +kernel) (by (simp only [go_sem]); first | done | rfl) ?_ | refine wd_mix 3 [] follows (by decide +kernel) (by (simp only [go_sem]); first | done | rfl) ?_ | refine wd_mix 2 [] follows (by decide +kernel) (by (simp only [go_sem]); first | done | rfl) ?_ | refine wd_mix 1 [] follows (by decide +kernel) (by (simp only [go_sem]); first | done | rfl) ?_ | refine wd_mix 0 [] follows (by decide +kernel) (by (simp only [go_sem]); first | done | rfl) ?_ | fail); (simp only [go_sem, h, bytes_nil, int_bne])) | (first | refine wd_fn (by (simp only [go_sem]); first | done | rfl) (hn) ?_ | refine wm_fn (by (simp only [go_sem]); first | done | rfl) (hn) (by (simp only [go_sem]); first | done | rfl) (by (simp only [go_sem]); first | done | rfl) ?_ | refine wt_fn (by (simp only [go_sem]); first | done | rfl) (hn) (by (simp only [go_sem]); first | done | rfl) (by (simp only [go_sem]); first | done | rfl) ?_); (simp only [go_sem]) | (first | refine wd_fn (by (simp only [go_sem]); first | done | rfl) (ht) ?_ | refine wm_fn (by (simp only [go_sem]); first | done | rfl) (ht) (by (simp only [go_sem]); first | done | rfl) (by (simp only [go_sem]); first | done | rfl) ?_ | refine wt_fn (by (simp only [go_sem]); first | done | rfl) (ht) (by (simp only [go_sem]); first | done | rfl) (by (simp only [go_sem]); first | done | rfl) ?_); (simp only [go_sem]) | (first | refine wd_fn (by (simp only [go_sem]); first | done | rfl) (ht0) ?_ | refine wm_fn (by (simp only [go_sem]); first | done | rfl) (ht0) (by (simp only [go_sem]); first | done | rfl) (by (simp only [go_sem]); first | done | rfl) ?_ | refine wt_fn (by (simp only [go_sem]); first | done | rfl) (ht0) (by (simp only [go_sem]); first | done | rfl) (by (simp only [go_sem]); first | done | rfl) ?_); (simp only [go_sem]) | (first | refine wd_fn (by (simp only [go_sem]); first | done | rfl) (hf0) ?_ | refine wm_fn (by (simp only [go_sem]); first | done | rfl) (hf0) (by (simp only [go_sem]); first | done | rfl) (by (simp only [go_sem]); first | done | rfl) ?_ | refine wt_fn (by (simp only [go_sem]); first | done | rfl) (hf0) (by (simp only [go_sem]); first | done | rfl) (by (simp only [go_sem]); first | done | rfl) ?_); (simp only [go_sem]))
    all_goals (refine hR _ (ret_at [] (by (simp only [go_sem]); first | done | rfl) (by (simp only [go_sem]); first | done | rfl) ⟨?_, rfl⟩))
    all_goals clear hR hn ht ht0 hf0
    all_goals simp_all
    all_goals (try grind)
end Go.Proofs.Ytnaebafafhamjaa
/- The plain laws of subtyping. -/
namespace Go.Proofs.Grad

theorem T.cons_symm (a : T) : ∀ b : T, a.cons b = b.cons a := by
  induction a with
  | fn a b iha ihb => intro c; cases c <;> simp [T.cons, iha, ihb]
  | pr a b iha ihb => intro c; cases c <;> simp [T.cons, iha, ihb]
  | _ => intro c; cases c <;> simp [T.cons]

theorem T.sub_trans' : ∀ (n : Nat) (a b c : T), a.size + b.size + c.size < n → a.sub b = true → b.sub c = true → a.sub c = true := by
  intro n
  induction n with
  | zero => intro a b c h; omega
  | succ n ih =>
    intro a b c hn h1 h2
    cases a <;> cases b <;> cases c <;> simp [T.sub] at h1 h2 ⊢ <;> simp only [T.size] at hn <;>
      first
      | exact h1
      | exact ⟨ih _ _ _ (by (try simp only [T.size]); omega) h1.1 h2.1, ih _ _ _ (by (try simp only [T.size]); omega) h1.2 h2.2⟩
      | exact ⟨ih _ _ _ (by (try simp only [T.size]); omega) h2.1 h1.1, ih _ _ _ (by (try simp only [T.size]); omega) h1.2 h2.2⟩
theorem T.sub_trans {a b c : T} (h1 : a.sub b = true) (h2 : b.sub c = true) : a.sub c = true := T.sub_trans' _ a b c (Nat.lt_succ_self _) h1 h2

theorem T.sub_cons' : ∀ (n : Nat) (a b : T), a.size + b.size < n → a.sub b = true → a.cons b = true := by
  intro n
  induction n with
  | zero => intro a b h; omega
  | succ n ih =>
    intro a b hn h1
    cases a <;> cases b <;> simp [T.sub, T.cons] at h1 ⊢ <;> simp only [T.size] at hn <;>
      first
      | exact ⟨ih _ _ (by omega) h1.1, ih _ _ (by omega) h1.2⟩
      | exact ⟨by rw [T.cons_symm]; exact ih _ _ (by omega) h1.1, ih _ _ (by omega) h1.2⟩
theorem T.sub_cons {a b : T} (h1 : a.sub b = true) : a.cons b = true := T.sub_cons' _ a b (Nat.lt_succ_self _) h1

theorem T.prec_eq' : ∀ (n : Nat) (a b : T), a.size + b.size < n → a.prec b = (a.pos b && b.neg a) := by
  intro n
  induction n with
  | zero => intro a b h; omega
  | succ n ih =>
    intro a b hn
    cases a <;> cases b <;> simp [T.prec, T.pos, T.neg] <;> simp only [T.size] at hn <;>
      (rw [ih _ _ (by omega), ih _ _ (by omega)]; grind)
theorem T.prec_eq (a b : T) : a.prec b = (a.pos b && b.neg a) := T.prec_eq' _ a b (Nat.lt_succ_self _)

theorem T.sub_pn' : ∀ (n : Nat) (a b : T), a.size + b.size < n → a.sub b = (a.pos b && a.neg b) := by
  intro n
  induction n with
  | zero => intro a b h; omega
  | succ n ih =>
    intro a b hn
    cases a <;> cases b <;> simp [T.sub, T.pos, T.neg] <;> simp only [T.size] at hn <;>
      (rw [ih _ _ (by (try simp only [T.size]); omega), ih _ _ (by (try simp only [T.size]); omega)]; (try simp [T.pos_any, T.any_neg]); try grind)
theorem T.sub_pn (a b : T) : a.sub b = (a.pos b && a.neg b) := T.sub_pn' _ a b (Nat.lt_succ_self _)

theorem T.sub_refl (a : T) : a.sub a = true := by
  induction a <;> simp [T.sub, *]

theorem T.sub_static : ∀ (n : Nat) (a b : T), a.size + b.size < n → a.count = 0 → b.count = 0 → a.sub b = decide (a = b) := by
  intro n
  induction n with
  | zero => intro a b h; omega
  | succ n ih =>
    intro a b hn h1 h2
    cases a <;> cases b <;> simp [T.sub, T.count] at h1 h2 ⊢ <;> simp only [T.size] at hn <;>
      (rw [ih _ _ (by omega) (by omega) (by omega), ih _ _ (by omega) (by omega) (by omega)]; try grind)
end Go.Proofs.Grad
/- Types: consistency in the reference, on shadows. -/
namespace Go.Proofs.Ytnaebafafhamjaa
open Go.RowKit Go.Proofs.Sh Go.Proofs.Grad
set_option maxRecDepth 100000
set_option maxHeartbeats 4000000
theorem l1Cons (n : Nat) : ∀ a b : T, a.size < n → AFn Try.prog 44 [.agg (tyC a.ty), .agg (tyC b.ty)] (.one (.sc (.bool (a.cons b)))) := by
  induction n with
  | zero => intro a b h; omega
  | succ n ih =>
    intro a b h
    rcases a with _ | _ | _ | ⟨a1, a2⟩ | ⟨a1, a2⟩ <;> rcases b with _ | _ | _ | ⟨b1, b2⟩ | ⟨b1, b2⟩
    all_goals simp only [T.size] at h
    all_goals
      refine fn_in ?_; refine acl_in Try.func44 rfl isfn_44 (Nat.le_of_ble_eq_true rfl) (fun R hR => ?_); rw [Try.results44] at hR; refine wg_run ?_; (simp only [Try.f44, go_sem])
      repeat' (first | (first | ((first | refine wd_split _ (fun hb => ?_) (fun hb => ?_) | refine wd_nwant _ (fun hb => ?_) (fun hb => ?_) | refine wm_nwant _ (fun hb => ?_) (fun hb => ?_) | refine wd_want _ (fun hb => ?_) (fun hb => ?_) | refine wm_want _ (fun hb => ?_) (fun hb => ?_) | refine wt_nwant _ (fun hb => ?_) (fun hb => ?_) | refine wt_want _ (fun hb => ?_) (fun hb => ?_)) <;> (simp only [go_sem, hb])) | (refine wm_done ?_; (simp only [go_sem])) | (refine wt_done ?_; (simp only [go_sem])) | (refine wg_run ?_; (simp only [go_sem])) | (refine wt_fork (by (simp only [go_sem]); first | done | rfl) ?_ ?_ <;> (simp only [go_sem]))) | (first | (refine wl_next (wg_run ?_); (simp only [go_sem])) | refine wd_rounds 6 ?_) | (first | refine wd_fn (by (simp only [go_sem]); first | done | rfl) (ih _ _ (by omega)) ?_ | refine wm_fn (by (simp only [go_sem]); first | done | rfl) (ih _ _ (by omega)) (by (simp only [go_sem]); first | done | rfl) (by (simp only [go_sem]); first | done | rfl) ?_ | refine wt_fn (by (simp only [go_sem]); first | done | rfl) (ih _ _ (by omega)) (by (simp only [go_sem]); first | done | rfl) (by (simp only [go_sem]); first | done | rfl) ?_); (simp only [go_sem]) | ((first | refine wd_mix 6 [] follows (by decide +kernel) (by (simp only [go_sem]); first | done | rfl) ?_ | refine wd_mix 5 [] follows (by decide +kernel) (by (simp only [go_sem]); first | done | rfl) ?_ | refine wd_mix 4 [] follows (by decide +kernel) (by (simp only [go_sem]); first | done | rfl) ?_ | refine wd_mix 3 [] follows (by decide +kernel) (by (simp only [go_sem]); first | done | rfl) ?_ | refine wd_mix 2 [] follows (by decide +kernel) (by (simp only [go_sem]); first | done | rfl) ?_ | refine wd_mix 1 [] follows (by decide +kernel) (by (simp only [go_sem]); first | done | rfl) ?_ | refine wd_mix 0 [] follows (by decide +kernel) (by (simp only [go_sem]); first | done | rfl) ?_ | fail); (simp only [go_sem])))
      all_goals (refine hR _ (ret_at [] (by (simp only [go_sem]); first | done | rfl) (by (simp only [go_sem]); first | done | rfl) ⟨?_, rfl⟩))
      all_goals simp_all [T.cons]
end Go.Proofs.Ytnaebafafhamjaa
