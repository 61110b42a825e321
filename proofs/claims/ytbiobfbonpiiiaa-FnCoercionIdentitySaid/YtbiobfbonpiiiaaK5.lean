/- Texts of the proof, one behind another. -/
import Derived.Test.YtbiobfbonpiiiaaK4
set_option linter.unusedSimpArgs false
set_option linter.unusedVariables false
/- Sorted labels in the reference. On shadows. -/
namespace Go.Proofs.Grad
theorem gtAny_take {l : List Int} {k : Nat} (n : Int) (h : k < l.length) : gtAny n (l.take (k + 1)) = (gtAny n (l.take k) || decide (n < Sh.num l k)) := by rw [Sh.numtake h, gtAny_snoc]
theorem hasN_take {l : List Int} {k : Nat} (n : Int) (h : k < l.length) : hasN n (l.take (k + 1)) = (hasN n (l.take k) || Sh.num l k == n) := by rw [Sh.numtake h, hasN_snoc]
theorem insP_take {l : List Int} {k : Nat} (n : Int) (h : k < l.length) : insP n (l.take (k + 1)) = match gtAny n (l.take k) with | true => insP n (l.take k) ++ [Sh.num l k] | false => (match decide (n < Sh.num l k) with | true => insP n (l.take k) ++ [n] ++ [Sh.num l k] | false => insP n (l.take k) ++ [Sh.num l k]) := by rw [Sh.numtake h]; exact insP_snoc n (Sh.num l k) (l.take k)
theorem hasN_of_take {l : List Int} {k : Nat} (n : Int) (h : k < l.length) (e : (Sh.num l k == n) = true) : hasN n l = true := by
  rw [mem_hasN, ← (beq_iff_eq.1 e), Sh.num_eq h]
  exact List.getElem_mem h
end Go.Proofs.Grad
namespace Go.Proofs.Ytbiobfbonpiiiaa
open Go.RowKit Go.Proofs.Sh Go.Proofs.Grad
set_option maxRecDepth 100000
set_option maxHeartbeats 8000000
theorem l4Sorted (l : List Int) (n : Int) (hl : l.length < 1000000) : AFn Try.prog 107 [.one (.sl (intR l)), .one (.sc (.int .i64 n))] (.one (.sl (intR (insF l n)))) := by
  refine fn_in ?_; refine acl_in Try.func107 rfl isfn_107 (Nat.le_of_ble_eq_true rfl) (fun R hR => ?_); rw [Try.results107] at hR; refine wg_run ?_; (simp only [Try.f107, go_sem])
  repeat' (first | ((first | refine wd_split _ (fun hb => ?_) (fun hb => ?_) | refine wd_nwant _ (fun hb => ?_) (fun hb => ?_) | refine wm_nwant _ (fun hb => ?_) (fun hb => ?_) | refine wd_want _ (fun hb => ?_) (fun hb => ?_) | refine wm_want _ (fun hb => ?_) (fun hb => ?_) | refine wt_nwant _ (fun hb => ?_) (fun hb => ?_) | refine wt_want _ (fun hb => ?_) (fun hb => ?_)) <;> (simp only [go_sem, hb])) | (refine wm_done ?_; (simp only [go_sem])) | (refine wt_done ?_; (simp only [go_sem])) | (refine wg_run ?_; (simp only [go_sem])) | (refine wt_fork (by (simp only [go_sem]); first | done | rfl) ?_ ?_ <;> (simp only [go_sem])))
  refine wd_for [0, 1, 5, 6, 7] (fun (x : Nat × Bool × List Int) => [.one (.sl (intR l)), .one (.sc (.int .i64 n)), .one (.row 1 0 x.2.2.length), .one (.sc (.bool x.2.1)), .one (.sc (.int .i64 (x.1 : Nat)))]) (fun x => [⟨1, 3, .mut, intR x.2.2⟩])
    (fun x => x.1 ≤ l.length ∧ hasN n (l.take x.1) = false ∧ x.2.1 = gtAny n (l.take x.1) ∧ x.2.2 = insP n (l.take x.1)) (fun x => l.length - x.1) (0, false, []) ⟨Nat.zero_le _, rfl, rfl, rfl⟩ (head_at [0] (by (simp only [go_sem]); first | done | rfl) (by (simp only [go_sem]); first | done | rfl) ⟨rfl, rfl⟩) ?_
  rintro ⟨k, d, acc⟩ ⟨hk, hno, hd, hacc⟩ G hG
  simp only [] at hk hno hd hacc hG
  have hal : acc.length ≤ l.length + 1 := by
    rw [hacc, insP_length, List.length_take]; split <;> omega
  refine wg_run ?_
  (simp only [go_sem])
  (first | refine wd_split _ (fun hb => ?_) (fun hb => ?_) | refine wd_nwant _ (fun hb => ?_) (fun hb => ?_) | refine wm_nwant _ (fun hb => ?_) (fun hb => ?_) | refine wd_want _ (fun hb => ?_) (fun hb => ?_) | refine wm_want _ (fun hb => ?_) (fun hb => ?_) | refine wt_nwant _ (fun hb => ?_) (fun hb => ?_) | refine wt_want _ (fun hb => ?_) (fun hb => ?_)) <;> (simp only [go_sem, hb])
  · have hk1 : k < l.length := by have := of_decide_eq_true hb; omega
    have hw1 := wrap_succ hk1 (by omega)
    have hcap : (acc.length + 1) * 8 ≤ 140737488355328 := by omega
    have hcap2 : (acc.length + 1 + 1) * 8 ≤ 140737488355328 := by omega
    cases e1 : (num l k == n)
    · have hno' : hasN n (l.take (k + 1)) = false := by rw [hasN_take n hk1, hno, e1]; rfl
      have hip := insP_take n hk1
      have hgp := gtAny_take n hk1
      rw [← hd, ← hacc] at hip
      rw [← hd] at hgp
      cases d
      · cases e2 : decide (num l k > n)
        · have e2' : decide (n < num l k) = false := e2
          rw [e2'] at hip hgp
          repeat' (first | (first | (simp only [go_sem, hb, hw1, hcap, e1, e2]) | ((first | refine wd_split _ (fun hb => ?_) (fun hb => ?_) | refine wd_nwant _ (fun hb => ?_) (fun hb => ?_) | refine wm_nwant _ (fun hb => ?_) (fun hb => ?_) | refine wd_want _ (fun hb => ?_) (fun hb => ?_) | refine wm_want _ (fun hb => ?_) (fun hb => ?_) | refine wt_nwant _ (fun hb => ?_) (fun hb => ?_) | refine wt_want _ (fun hb => ?_) (fun hb => ?_)) <;> (simp only [go_sem, hb, hb, hw1, hcap, e1, e2])) | (refine wm_done ?_; (simp only [go_sem, hb, hw1, hcap, e1, e2])) | (refine wt_done ?_; (simp only [go_sem, hb, hw1, hcap, e1, e2])) | (refine wg_run ?_; (simp only [go_sem, hb, hw1, hcap, e1, e2])) | (refine wt_fork (by (simp only [go_sem]); first | done | rfl) ?_ ?_ <;> (simp only [go_sem, hb, hw1, hcap, e1, e2]))) | ((first | refine wd_mix 6 [] follows (by decide +kernel) (by (simp only [go_sem]); first | done | rfl) ?_ | refine wd_mix 5 [] follows (by decide +kernel) (by (simp only [go_sem]); first | done | rfl) ?_ | refine wd_mix 4 [] follows (by decide +kernel) (by (simp only [go_sem]); first | done | rfl) ?_ | refine wd_mix 3 [] follows (by decide +kernel) (by (simp only [go_sem]); first | done | rfl) ?_ | refine wd_mix 2 [] follows (by decide +kernel) (by (simp only [go_sem]); first | done | rfl) ?_ | refine wd_mix 1 [] follows (by decide +kernel) (by (simp only [go_sem]); first | done | rfl) ?_ | refine wd_mix 0 [] follows (by decide +kernel) (by (simp only [go_sem]); first | done | rfl) ?_ | fail); (simp only [go_sem, hb, hcap, e1, e2])) | fail)
          refine hG (k + 1, false, acc ++ [num l k]) _ _ ⟨by omega, hno', by rw [hgp]; rfl, hip.symm⟩ (by simp only []; omega) (head_at [2] (by (simp only [go_sem]); first | done | rfl) (by (simp only [go_sem]); first | done | rfl) ⟨?_, ?_⟩)
          · simp only [List.length_append, List.length_cons, List.length_nil]
          · simp only [intR_append, intR]
        · have e2' : decide (n < num l k) = true := e2
          rw [e2'] at hip hgp
          repeat' (first | (first | (simp only [go_sem, hb, hw1, hcap, hcap2, e1, e2]) | ((first | refine wd_split _ (fun hb => ?_) (fun hb => ?_) | refine wd_nwant _ (fun hb => ?_) (fun hb => ?_) | refine wm_nwant _ (fun hb => ?_) (fun hb => ?_) | refine wd_want _ (fun hb => ?_) (fun hb => ?_) | refine wm_want _ (fun hb => ?_) (fun hb => ?_) | refine wt_nwant _ (fun hb => ?_) (fun hb => ?_) | refine wt_want _ (fun hb => ?_) (fun hb => ?_)) <;> (simp only [go_sem, hb, hb, hw1, hcap, hcap2, e1, e2])) | (refine wm_done ?_; (simp only [go_sem, hb, hw1, hcap, hcap2, e1, e2])) | (refine wt_done ?_; (simp only [go_sem, hb, hw1, hcap, hcap2, e1, e2])) | (refine wg_run ?_; (simp only [go_sem, hb, hw1, hcap, hcap2, e1, e2])) | (refine wt_fork (by (simp only [go_sem]); first | done | rfl) ?_ ?_ <;> (simp only [go_sem, hb, hw1, hcap, hcap2, e1, e2]))) | ((first | refine wd_mix 6 [] follows (by decide +kernel) (by (simp only [go_sem]); first | done | rfl) ?_ | refine wd_mix 5 [] follows (by decide +kernel) (by (simp only [go_sem]); first | done | rfl) ?_ | refine wd_mix 4 [] follows (by decide +kernel) (by (simp only [go_sem]); first | done | rfl) ?_ | refine wd_mix 3 [] follows (by decide +kernel) (by (simp only [go_sem]); first | done | rfl) ?_ | refine wd_mix 2 [] follows (by decide +kernel) (by (simp only [go_sem]); first | done | rfl) ?_ | refine wd_mix 1 [] follows (by decide +kernel) (by (simp only [go_sem]); first | done | rfl) ?_ | refine wd_mix 0 [] follows (by decide +kernel) (by (simp only [go_sem]); first | done | rfl) ?_ | fail); (simp only [go_sem, hb, hcap, hcap2, e1, e2])) | fail)
          refine hG (k + 1, true, acc ++ [n] ++ [num l k]) _ _ ⟨by omega, hno', by rw [hgp]; rfl, hip.symm⟩ (by simp only []; omega) (head_at [4] (by (simp only [go_sem]); first | done | rfl) (by (simp only [go_sem]); first | done | rfl) ⟨?_, ?_⟩)
          · simp only [List.length_append, List.length_cons, List.length_nil]
          · simp only [intR_append, intR]
      · repeat' (first | (first | (simp only [go_sem, hb, hw1, hcap, e1]) | ((first | refine wd_split _ (fun hb => ?_) (fun hb => ?_) | refine wd_nwant _ (fun hb => ?_) (fun hb => ?_) | refine wm_nwant _ (fun hb => ?_) (fun hb => ?_) | refine wd_want _ (fun hb => ?_) (fun hb => ?_) | refine wm_want _ (fun hb => ?_) (fun hb => ?_) | refine wt_nwant _ (fun hb => ?_) (fun hb => ?_) | refine wt_want _ (fun hb => ?_) (fun hb => ?_)) <;> (simp only [go_sem, hb, hb, hw1, hcap, e1])) | (refine wm_done ?_; (simp only [go_sem, hb, hw1, hcap, e1])) | (refine wt_done ?_; (simp only [go_sem, hb, hw1, hcap, e1])) | (refine wg_run ?_; (simp only [go_sem, hb, hw1, hcap, e1])) | (refine wt_fork (by (simp only [go_sem]); first | done | rfl) ?_ ?_ <;> (simp only [go_sem, hb, hw1, hcap, e1]))) | ((first | refine wd_mix 6 [] follows (by decide +kernel) (by (simp only [go_sem]); first | done | rfl) ?_ | refine wd_mix 5 [] follows (by decide +kernel) (by (simp only [go_sem]); first | done | rfl) ?_ | refine wd_mix 4 [] follows (by decide +kernel) (by (simp only [go_sem]); first | done | rfl) ?_ | refine wd_mix 3 [] follows (by decide +kernel) (by (simp only [go_sem]); first | done | rfl) ?_ | refine wd_mix 2 [] follows (by decide +kernel) (by (simp only [go_sem]); first | done | rfl) ?_ | refine wd_mix 1 [] follows (by decide +kernel) (by (simp only [go_sem]); first | done | rfl) ?_ | refine wd_mix 0 [] follows (by decide +kernel) (by (simp only [go_sem]); first | done | rfl) ?_ | fail); (simp only [go_sem, hb, hcap, e1])) | fail)
        refine hG (k + 1, true, acc ++ [num l k]) _ _ ⟨by omega, hno', by rw [hgp]; rfl, hip.symm⟩ (by simp only []; omega) (head_at [2] (by (simp only [go_sem]); first | done | rfl) (by (simp only [go_sem]); first | done | rfl) ⟨?_, ?_⟩)
        · simp only [List.length_append, List.length_cons, List.length_nil]
        · simp only [intR_append, intR]
    · repeat' (first | (first | (simp only [go_sem, hb, e1]) | ((first | refine wd_split _ (fun hb => ?_) (fun hb => ?_) | refine wd_nwant _ (fun hb => ?_) (fun hb => ?_) | refine wm_nwant _ (fun hb => ?_) (fun hb => ?_) | refine wd_want _ (fun hb => ?_) (fun hb => ?_) | refine wm_want _ (fun hb => ?_) (fun hb => ?_) | refine wt_nwant _ (fun hb => ?_) (fun hb => ?_) | refine wt_want _ (fun hb => ?_) (fun hb => ?_)) <;> (simp only [go_sem, hb, hb, e1])) | (refine wm_done ?_; (simp only [go_sem, hb, e1])) | (refine wt_done ?_; (simp only [go_sem, hb, e1])) | (refine wg_run ?_; (simp only [go_sem, hb, e1])) | (refine wt_fork (by (simp only [go_sem]); first | done | rfl) ?_ ?_ <;> (simp only [go_sem, hb, e1]))) | ((first | refine wd_mix 6 [] follows (by decide +kernel) (by (simp only [go_sem]); first | done | rfl) ?_ | refine wd_mix 5 [] follows (by decide +kernel) (by (simp only [go_sem]); first | done | rfl) ?_ | refine wd_mix 4 [] follows (by decide +kernel) (by (simp only [go_sem]); first | done | rfl) ?_ | refine wd_mix 3 [] follows (by decide +kernel) (by (simp only [go_sem]); first | done | rfl) ?_ | refine wd_mix 2 [] follows (by decide +kernel) (by (simp only [go_sem]); first | done | rfl) ?_ | refine wd_mix 1 [] follows (by decide +kernel) (by (simp only [go_sem]); first | done | rfl) ?_ | refine wd_mix 0 [] follows (by decide +kernel) (by (simp only [go_sem]); first | done | rfl) ?_ | fail); (simp only [go_sem, hb, e1])) | fail)
      (refine hR _ (ret_at [] (by (simp only [go_sem]); first | done | rfl) (by (simp only [go_sem]); first | done | rfl) ⟨?_, rfl⟩))
      unfold insF; rw [hasN_of_take n hk1 e1]
  · have hk1 : l.take k = l := List.take_of_length_le (by have := of_decide_eq_false hb; omega)
    rw [hk1] at hno hd hacc
    have hcap : (acc.length + 1) * 8 ≤ 140737488355328 := by omega
    cases d
    · repeat' (first | (first | (simp only [go_sem, hb, hcap]) | ((first | refine wd_split _ (fun hb => ?_) (fun hb => ?_) | refine wd_nwant _ (fun hb => ?_) (fun hb => ?_) | refine wm_nwant _ (fun hb => ?_) (fun hb => ?_) | refine wd_want _ (fun hb => ?_) (fun hb => ?_) | refine wm_want _ (fun hb => ?_) (fun hb => ?_) | refine wt_nwant _ (fun hb => ?_) (fun hb => ?_) | refine wt_want _ (fun hb => ?_) (fun hb => ?_)) <;> (simp only [go_sem, hb, hb, hcap])) | (refine wm_done ?_; (simp only [go_sem, hb, hcap])) | (refine wt_done ?_; (simp only [go_sem, hb, hcap])) | (refine wg_run ?_; (simp only [go_sem, hb, hcap])) | (refine wt_fork (by (simp only [go_sem]); first | done | rfl) ?_ ?_ <;> (simp only [go_sem, hb, hcap]))) | ((first | refine wd_mix 6 [] follows (by decide +kernel) (by (simp only [go_sem]); first | done | rfl) ?_ | refine wd_mix 5 [] follows (by decide +kernel) (by (simp only [go_sem]); first | done | rfl) ?_ | refine wd_mix 4 [] follows (by decide +kernel) (by (simp only [go_sem]); first | done | rfl) ?_ | refine wd_mix 3 [] follows (by decide +kernel) (by (simp only [go_sem]); first | done | rfl) ?_ | refine wd_mix 2 [] follows (by decide +kernel) (by (simp only [go_sem]); first | done | rfl) ?_ | refine wd_mix 1 [] follows (by decide +kernel) (by (simp only [go_sem]); first | done | rfl) ?_ | refine wd_mix 0 [] follows (by decide +kernel) (by (simp only [go_sem]); first | done | rfl) ?_ | fail); (simp only [go_sem, hb, hcap])) | fail)
      (refine hR _ (ret_at [] (by (simp only [go_sem]); first | done | rfl) (by (simp only [go_sem]); first | done | rfl) ⟨?_, rfl⟩))
      unfold insF; rw [hno]; simp only []; rw [ins_none n l hd.symm, hacc]; unfold insP; rw [← hd]; simp only [intR_append, intR]
    · repeat' (first | (first | (simp only [go_sem, hb, hcap]) | ((first | refine wd_split _ (fun hb => ?_) (fun hb => ?_) | refine wd_nwant _ (fun hb => ?_) (fun hb => ?_) | refine wm_nwant _ (fun hb => ?_) (fun hb => ?_) | refine wd_want _ (fun hb => ?_) (fun hb => ?_) | refine wm_want _ (fun hb => ?_) (fun hb => ?_) | refine wt_nwant _ (fun hb => ?_) (fun hb => ?_) | refine wt_want _ (fun hb => ?_) (fun hb => ?_)) <;> (simp only [go_sem, hb, hb, hcap])) | (refine wm_done ?_; (simp only [go_sem, hb, hcap])) | (refine wt_done ?_; (simp only [go_sem, hb, hcap])) | (refine wg_run ?_; (simp only [go_sem, hb, hcap])) | (refine wt_fork (by (simp only [go_sem]); first | done | rfl) ?_ ?_ <;> (simp only [go_sem, hb, hcap]))) | ((first | refine wd_mix 6 [] follows (by decide +kernel) (by (simp only [go_sem]); first | done | rfl) ?_ | refine wd_mix 5 [] follows (by decide +kernel) (by (simp only [go_sem]); first | done | rfl) ?_ | refine wd_mix 4 [] follows (by decide +kernel) (by (simp only [go_sem]); first | done | rfl) ?_ | refine wd_mix 3 [] follows (by decide +kernel) (by (simp only [go_sem]); first | done | rfl) ?_ | refine wd_mix 2 [] follows (by decide +kernel) (by (simp only [go_sem]); first | done | rfl) ?_ | refine wd_mix 1 [] follows (by decide +kernel) (by (simp only [go_sem]); first | done | rfl) ?_ | refine wd_mix 0 [] follows (by decide +kernel) (by (simp only [go_sem]); first | done | rfl) ?_ | fail); (simp only [go_sem, hb, hcap])) | fail)
      (refine hR _ (ret_at [] (by (simp only [go_sem]); first | done | rfl) (by (simp only [go_sem]); first | done | rfl) ⟨?_, rfl⟩))
      unfold insF insP at *; rw [hno]; rw [← hd] at hacc; simp only [] at hacc ⊢; rw [hacc]
end Go.Proofs.Ytbiobfbonpiiiaa
/- Types as shadows. -/
namespace Go.Proofs.Sh
open Go.RowKit Go.Proofs.Grad

mutual
def tyC : Ty → List C
  | .mk k l => [.sc (.int .i64 k), .sl (tyR l)]
def tyR : List Ty → List (List C)
  | [] => []
  | t :: l => tyC t :: tyR l
end
theorem tyC_eq (t : Ty) : tyC t = [.sc (.int .i64 t.kind), .sl (tyR t.kids)] := by cases t; rfl
@[go_sem] theorem tyC_length (t : Ty) : (tyC t).length = 2 := by rw [tyC_eq]; rfl
@[go_sem] theorem tyC_0 (t : Ty) : (tyC t)[0]? = some (.sc (.int .i64 t.kind)) := by rw [tyC_eq]; rfl
@[go_sem] theorem tyC_1 (t : Ty) : (tyC t)[1]? = some (.sl (tyR t.kids)) := by rw [tyC_eq]; rfl
@[go_sem] theorem tyC_take (t : Ty) : (tyC t).take 2 = tyC t := by rw [tyC_eq]; rfl
@[go_sem] theorem tyC_drop2 (t : Ty) : (tyC t).drop 2 = [] := by rw [tyC_eq]; rfl
@[go_sem] theorem tyC_tree (t : Ty) : (tyC t).all C.tree = true := by rw [tyC_eq]; rfl
@[go_sem] theorem tyC_treeL (t : Ty) : treeL (tyC t) = true := by rw [tyC_eq]; rfl
@[go_sem] theorem tyR_length (l : List Ty) : (tyR l).length = l.length := by
  induction l with
  | nil => rfl
  | cons t l ih => simp [tyR, ih]
theorem tyR_get (l : List Ty) (i : Nat) : (tyR l)[i]? = (l[i]?).map tyC := by
  induction l generalizing i with
  | nil => simp [tyR]
  | cons t l ih => cases i <;> simp [tyR, ih]
@[go_sem] theorem tyC_splice1 (t : Ty) (x : C) : splice (tyC t) 1 [x] = [.sc (.int .i64 t.kind), x] := by rw [tyC_eq]; rfl
@[go_sem] theorem tyC_splice0 (t : Ty) (x : C) : splice (tyC t) 0 [x] = [x, .sl (tyR t.kids)] := by rw [tyC_eq]; rfl
@[go_sem] theorem tyC_splice2 (t : Ty) (x y : C) : splice (tyC t) 0 [x, y] = [x, y] := by rw [tyC_eq]; rfl
/-- the k-th one of a list of types -/
def kid (l : List Ty) (k : Nat) : Ty := l.getD k (.mk 0 [])
theorem kid_eq {l : List Ty} {k : Nat} (h : k < l.length) : kid l k = l[k] := by simp [kid, h]
@[go_sem] theorem tyR_at (l : List Ty) (i : Nat) : (tyR l)[i]? = match decide ((i : Int) < (l.length : Int)) with | true => some (tyC (kid l i)) | false => none := by
  rw [tyR_get]
  by_cases h : i < l.length
  · have h' : (i : Int) < (l.length : Int) := by omega
    simp [h, h', kid]
  · have h' : ¬ (i : Int) < (l.length : Int) := by omega
    simp [h, h']
theorem kid_lt {t : Ty} {k : Nat} (h : k < t.kids.length) : (kid t.kids k).size < t.size := by
  rw [kid_eq h]
  have := Ty.sizes_mem (List.getElem_mem h)
  cases t; simp only [Ty.size, Ty.kids] at *; omega
theorem take_kid {l : List Ty} {k : Nat} (h : k < l.length) : l.take (k + 1) = l.take k ++ [kid l k] := by
  rw [kid_eq h, List.take_succ_eq_append_getElem h]
theorem drop_kid {l : List Ty} {k : Nat} (h : k < l.length) : l.drop k = kid l k :: l.drop (k + 1) := by
  rw [kid_eq h, List.drop_eq_getElem_cons h]
theorem tyR_take {l : List Ty} {k : Nat} (h : k < l.length) : tyR (l.take (k + 1)) = tyR (l.take k) ++ [tyC (kid l k)] := by
  rw [take_kid h]
  induction l.take k with
  | nil => rfl
  | cons x m ih => simp only [List.cons_append, tyR, ih]
@[go_sem] theorem tyR_tree (l : List Ty) : treeRows (tyR l) = true := by
  induction l with
  | nil => rfl
  | cons t l ih =>
    simp only [treeRows, tyR, List.all_cons, tyC_treeL, Bool.true_and]
    exact ih
@[go_sem] theorem tyR_len (l : List Ty) : rowsLen 2 (tyR l) = true := by
  induction l with
  | nil => rfl
  | cons t l ih =>
    simp only [rowsLen, tyR, List.all_cons, tyC_length, beq_self_eq_true, Bool.true_and]
    exact ih
theorem tyR_append (l m : List Ty) : tyR (l ++ m) = tyR l ++ tyR m := by
  induction l with
  | nil => rfl
  | cons t l ih => simp [tyR, ih]
attribute [go_sem] tyR
end Go.Proofs.Sh
/- Coercions as shadows. -/
namespace Go.Proofs.Sh
open Go.RowKit Go.Proofs.Grad

mutual
def coC : Co → List C
  | .mk x0 x1 x2 x3 => [.sc (.int .i64 (x0)), .sc (.int .i64 (x1)), .sc (.int .i64 (x2)), .sl (coR (x3))]
def coR : List Co → List (List C)
  | [] => []
  | t :: l => coC t :: coR l
end
theorem coC_eq (t : Co) : coC t = [.sc (.int .i64 (t.kind)), .sc (.int .i64 (t.tag)), .sc (.int .i64 (t.label)), .sl (coR (t.kids))] := by cases t; rfl
@[go_sem] theorem coC_length (t : Co) : (coC t).length = 4 := by rw [coC_eq]; rfl
@[go_sem] theorem coC_take (t : Co) : (coC t).take 4 = coC t := by rw [coC_eq]; rfl
@[go_sem] theorem coC_drop (t : Co) : (coC t).drop 0 = coC t := rfl
@[go_sem] theorem coC_dropn (t : Co) : (coC t).drop 4 = [] := by rw [coC_eq]; rfl
@[go_sem] theorem coC_treeL (t : Co) : treeL (coC t) = true := by rw [coC_eq]; rfl
@[go_sem] theorem coC_0 (t : Co) : (coC t)[0]? = some (.sc (.int .i64 (t.kind))) := by rw [coC_eq]; rfl
@[go_sem] theorem coC_1 (t : Co) : (coC t)[1]? = some (.sc (.int .i64 (t.tag))) := by rw [coC_eq]; rfl
@[go_sem] theorem coC_2 (t : Co) : (coC t)[2]? = some (.sc (.int .i64 (t.label))) := by rw [coC_eq]; rfl
@[go_sem] theorem coC_3 (t : Co) : (coC t)[3]? = some (.sl (coR (t.kids))) := by rw [coC_eq]; rfl
@[go_sem] theorem coC_splice0 (t : Co) (x : C) : splice (coC t) 0 [x] = [x, .sc (.int .i64 (t.tag)), .sc (.int .i64 (t.label)), .sl (coR (t.kids))] := by rw [coC_eq]; rfl
@[go_sem] theorem coC_splice1 (t : Co) (x : C) : splice (coC t) 1 [x] = [.sc (.int .i64 (t.kind)), x, .sc (.int .i64 (t.label)), .sl (coR (t.kids))] := by rw [coC_eq]; rfl
@[go_sem] theorem coC_splice2 (t : Co) (x : C) : splice (coC t) 2 [x] = [.sc (.int .i64 (t.kind)), .sc (.int .i64 (t.tag)), x, .sl (coR (t.kids))] := by rw [coC_eq]; rfl
@[go_sem] theorem coC_splice3 (t : Co) (x : C) : splice (coC t) 3 [x] = [.sc (.int .i64 (t.kind)), .sc (.int .i64 (t.tag)), .sc (.int .i64 (t.label)), x] := by rw [coC_eq]; rfl
@[go_sem] theorem coR_length (l : List Co) : (coR l).length = l.length := by
  induction l with
  | nil => rfl
  | cons t l ih => simp [coR, ih]
theorem coR_get (l : List Co) (i : Nat) : (coR l)[i]? = (l[i]?).map coC := by
  induction l generalizing i with
  | nil => simp [coR]
  | cons t l ih => cases i <;> simp [coR, ih]
/-- the k-th one -/
def coKid (l : List Co) (k : Nat) : Co := l.getD k (.mk 0 0 0 [])
theorem coKid_eq {l : List Co} {k : Nat} (h : k < l.length) : coKid l k = l[k] := by simp [coKid, h]
@[go_sem] theorem coR_at (l : List Co) (i : Nat) : (coR l)[i]? = match decide ((i : Int) < (l.length : Int)) with | true => some (coC (coKid l i)) | false => none := by
  rw [coR_get]
  by_cases h : i < l.length
  · have h' : (i : Int) < (l.length : Int) := by omega
    simp [h, h', coKid]
  · have h' : ¬ (i : Int) < (l.length : Int) := by omega
    simp [h, h']
theorem cosizes_mem {t : Co} {l : List Co} (h : t ∈ l) : t.size ≤ Co.sizes l := by
  induction l with
  | nil => simp at h
  | cons x l ih =>
    simp only [Co.sizes]
    rcases List.mem_cons.1 h with rfl | h
    · omega
    · have := ih h; omega
theorem colen_sizes (l : List Co) : l.length ≤ Co.sizes l := by
  induction l with
  | nil => simp [Co.sizes]
  | cons x l ih => cases x; simp only [Co.sizes, Co.size, List.length_cons]; omega
theorem cokids_lt (t : Co) : Co.sizes t.kids < t.size := by cases t; simp only [Co.size, Co.kids]; omega
theorem colen_lt (t : Co) : t.kids.length < t.size := Nat.lt_of_le_of_lt (colen_sizes _) (cokids_lt t)
theorem coKid_lt {t : Co} {k : Nat} (h : k < t.kids.length) : (coKid t.kids k).size < t.size := by
  rw [coKid_eq h]
  exact Nat.lt_of_le_of_lt (cosizes_mem (List.getElem_mem h)) (cokids_lt t)
theorem cotake_kid {l : List Co} {k : Nat} (h : k < l.length) : l.take (k + 1) = l.take k ++ [coKid l k] := by
  rw [coKid_eq h, List.take_succ_eq_append_getElem h]
theorem codrop_kid {l : List Co} {k : Nat} (h : k < l.length) : l.drop k = coKid l k :: l.drop (k + 1) := by
  rw [coKid_eq h, List.drop_eq_getElem_cons h]
theorem coR_append (l m : List Co) : coR (l ++ m) = coR l ++ coR m := by
  induction l with
  | nil => rfl
  | cons t l ih => simp [coR, ih]
theorem coR_take {l : List Co} {k : Nat} (h : k < l.length) : coR (l.take (k + 1)) = coR (l.take k) ++ [coC (coKid l k)] := by
  rw [cotake_kid h, coR_append]; rfl
@[go_sem] theorem coR_tree (l : List Co) : treeRows (coR l) = true := by
  induction l with
  | nil => rfl
  | cons t l ih => simp only [coR, treeRows_cons, coC_treeL, Bool.true_and]; exact ih
@[go_sem] theorem coR_len (l : List Co) : rowsLen 4 (coR l) = true := by
  induction l with
  | nil => rfl
  | cons t l ih => simp only [coR, rowsLen_cons, coC_length, beq_self_eq_true, Bool.true_and]; exact ih
attribute [go_sem] coR
@[go_sem] theorem cokind_mk (x0 : Int) (x1 : Int) (x2 : Int) (x3 : List Co) : (Co.mk x0 x1 x2 x3).kind = x0 := rfl
@[go_sem] theorem cotag_mk (x0 : Int) (x1 : Int) (x2 : Int) (x3 : List Co) : (Co.mk x0 x1 x2 x3).tag = x1 := rfl
@[go_sem] theorem colabel_mk (x0 : Int) (x1 : Int) (x2 : Int) (x3 : List Co) : (Co.mk x0 x1 x2 x3).label = x2 := rfl
@[go_sem] theorem cokids_mk (x0 : Int) (x1 : Int) (x2 : Int) (x3 : List Co) : (Co.mk x0 x1 x2 x3).kids = x3 := rfl
end Go.Proofs.Sh
/- Coercions: equality and search of lists, on shadows. -/
namespace Go.Proofs.Sh
open Go.Proofs.Grad
def coall2 (f : Co → Co → Bool) : List Co → List Co → Bool
  | [], [] => true
  | a :: l, b :: m => f a b && coall2 f l m
  | _, _ => false
theorem coall2_kid {f : Co → Co → Bool} {a b : List Co} {i : Nat} (ha : i < a.length) (hb : i < b.length) : coall2 f (a.drop i) (b.drop i) = (f (coKid a i) (coKid b i) && coall2 f (a.drop (i + 1)) (b.drop (i + 1))) := by
  rw [codrop_kid ha, codrop_kid hb]; rfl
theorem coall2_end {f : Co → Co → Bool} {a b : List Co} {i : Nat} (ha : ¬ i < a.length) (hb : a.length = b.length) : coall2 f (a.drop i) (b.drop i) = true := by
  rw [List.drop_eq_nil_of_le (by omega), List.drop_eq_nil_of_le (by omega)]; rfl
theorem coall2_len {f : Co → Co → Bool} : ∀ {a b : List Co}, a.length ≠ b.length → coall2 f a b = false
  | [], [], h => by simp at h
  | [], _ :: _, _ => rfl
  | _ :: _, [], _ => rfl
  | _ :: a, _ :: b, h => by simp only [coall2]; rw [coall2_len (by simpa using h)]; simp
theorem cosames_all2 : ∀ a b : List Co, Co.sames a b = coall2 Co.same a b
  | [], [] => rfl
  | [], _ :: _ => rfl
  | _ :: _, [] => rfl
  | _ :: a, _ :: b => by simp only [Co.sames, coall2, cosames_all2 a b]
/-- the index of the first one, -1 for none -/
def coidx (p : Co → Bool) : Nat → List Co → Int
  | _, [] => -1
  | k, t :: l => if p t then (k : Nat) else coidx p (k + 1) l
theorem coidx_any (p : Co → Bool) : ∀ (l : List Co) (k : Nat), decide (0 ≤ coidx p k l) = l.any p
  | [], k => by simp [coidx]
  | t :: l, k => by
    simp only [coidx, List.any_cons]
    split
    · rename_i h; simp [h]
    · rename_i h; rw [coidx_any p l (k + 1)]; simp [h]
end Go.Proofs.Sh
namespace Go.Proofs.Ytbiobfbonpiiiaa
open Go.RowKit Go.Proofs.Sh Go.Proofs.Grad
set_option maxRecDepth 100000
set_option maxHeartbeats 4000000
theorem coEqFunc (g : FuncId) (Q : Co → Co → Bool) (l m : List Co) (hl : l.length < 4611686018427387904)
    (hg : ∀ k, k < l.length → k < m.length → AFn Try.prog g [.agg (coC (coKid l k)), .agg (coC (coKid m k))] (.one (.sc (.bool (Q (coKid l k) (coKid m k)))))) :
    AFn Try.prog 55 [.one (.sl (coR l)), .one (.sl (coR m)), .one (.fn g [])] (.one (.sc (.bool (coall2 Q l m)))) := by
  refine fn_in ?_; refine acl_in Try.func55 rfl isfn_55 (Nat.le_of_ble_eq_true rfl) (fun R hR => ?_); rw [Try.results55] at hR; refine wg_run ?_; (simp only [Try.f55, go_sem])
  repeat' (first | ((first | refine wd_split _ (fun hb => ?_) (fun hb => ?_) | refine wd_nwant _ (fun hb => ?_) (fun hb => ?_) | refine wm_nwant _ (fun hb => ?_) (fun hb => ?_) | refine wd_want _ (fun hb => ?_) (fun hb => ?_) | refine wm_want _ (fun hb => ?_) (fun hb => ?_) | refine wt_nwant _ (fun hb => ?_) (fun hb => ?_) | refine wt_want _ (fun hb => ?_) (fun hb => ?_)) <;> (simp only [go_sem, hb])) | (refine wm_done ?_; (simp only [go_sem])) | (refine wt_done ?_; (simp only [go_sem])) | (refine wg_run ?_; (simp only [go_sem])) | (refine wt_fork (by (simp only [go_sem]); first | done | rfl) ?_ ?_ <;> (simp only [go_sem])))
  · (refine hR _ (ret_at [] (by (simp only [go_sem]); first | done | rfl) (by (simp only [go_sem]); first | done | rfl) ⟨?_, rfl⟩))
    rw [coall2_len]
    intro h; simp [h] at hb
  · have hlm : l.length = m.length := by simp at hb; omega
    clear hb
    refine wd_for [0, 1, 2, 15, 16, 17] (fun k => [.one (.sl (coR l)), .one (.sl (coR m)), .one (.fn g []), .one (.sl (coR l)), .one (.sc (.int .i64 l.length)), .one (.sc (.int .i64 (k : Nat)))]) (fun k => [])
      (fun k => k ≤ l.length ∧ coall2 Q (l.drop k) (m.drop k) = coall2 Q l m) (fun k => l.length - k) 0 ⟨Nat.zero_le _, rfl⟩ (head_at [] (by (simp only [go_sem]); first | done | rfl) (by (simp only [go_sem]); first | done | rfl) ⟨rfl, rfl⟩) ?_
    rintro k ⟨hk, hs⟩ G hG
    refine wg_run ?_
    (simp only [go_sem])
    (first | refine wd_split _ (fun hb => ?_) (fun hb => ?_) | refine wd_nwant _ (fun hb => ?_) (fun hb => ?_) | refine wm_nwant _ (fun hb => ?_) (fun hb => ?_) | refine wd_want _ (fun hb => ?_) (fun hb => ?_) | refine wm_want _ (fun hb => ?_) (fun hb => ?_) | refine wt_nwant _ (fun hb => ?_) (fun hb => ?_) | refine wt_want _ (fun hb => ?_) (fun hb => ?_)) <;> (simp only [go_sem, hb])
    · have hk1 : k < l.length := by have := of_decide_eq_true hb; omega
      have hk2 : decide ((k : Int) < (m.length : Int)) = true := by simp; omega
      rw [coall2_kid hk1 (by omega)] at hs
      have hw1 := wrap_succ hk1 (by omega)
      (simp only [go_sem, hk2])
      (first | refine wd_fn (by (simp only [go_sem]); first | done | rfl) (hg k hk1 (by omega)) ?_ | refine wm_fn (by (simp only [go_sem]); first | done | rfl) (hg k hk1 (by omega)) (by (simp only [go_sem]); first | done | rfl) (by (simp only [go_sem]); first | done | rfl) ?_ | refine wt_fn (by (simp only [go_sem]); first | done | rfl) (hg k hk1 (by omega)) (by (simp only [go_sem]); first | done | rfl) (by (simp only [go_sem]); first | done | rfl) ?_); (simp only [go_sem])
      repeat' (first | (simp only [go_sem, hw1]) | ((first | refine wd_split _ (fun hb => ?_) (fun hb => ?_) | refine wd_nwant _ (fun hb => ?_) (fun hb => ?_) | refine wm_nwant _ (fun hb => ?_) (fun hb => ?_) | refine wd_want _ (fun hb => ?_) (fun hb => ?_) | refine wm_want _ (fun hb => ?_) (fun hb => ?_) | refine wt_nwant _ (fun hb => ?_) (fun hb => ?_) | refine wt_want _ (fun hb => ?_) (fun hb => ?_)) <;> (simp only [go_sem, hb, hw1])) | (refine wm_done ?_; (simp only [go_sem, hw1])) | (refine wt_done ?_; (simp only [go_sem, hw1])) | (refine wg_run ?_; (simp only [go_sem, hw1])) | (refine wt_fork (by (simp only [go_sem]); first | done | rfl) ?_ ?_ <;> (simp only [go_sem, hw1])))
      · exact hG (k + 1) _ _ ⟨by omega, by simpa [hb] using hs⟩ (by omega) (head_at [] (by (simp only [go_sem]); first | done | rfl) (by (simp only [go_sem]); first | done | rfl) ⟨rfl, rfl⟩)
      · (refine hR _ (ret_at [] (by (simp only [go_sem]); first | done | rfl) (by (simp only [go_sem]); first | done | rfl) ⟨?_, rfl⟩))
        simpa [hb] using hs
    · have hk1 : ¬ k < l.length := by have := of_decide_eq_false hb; omega
      rw [coall2_end hk1 hlm] at hs
      (refine hR _ (ret_at [] (by (simp only [go_sem]); first | done | rfl) (by (simp only [go_sem]); first | done | rfl) ⟨?_, rfl⟩))
      simpa using hs
theorem coIndexFunc0 (g : FuncId) (p : Co → Bool) (l : List Co) (hl : l.length < 4611686018427387904)
    (hg : ∀ k, k < l.length → ACl Try.prog g [.agg (coC (coKid l k))] [] (fun r H' => r = .one (.sc (.bool (p (coKid l k)))) ∧ H' = [])) :
    ACl Try.prog 114 [.one (.sl (coR l)), .one (.fn g [])] [] (fun r H' => r = .one (.sc (.int .i64 (coidx p 0 l))) ∧ H' = []) := by
  refine acl_in Try.func114 rfl isfn_114 (Nat.le_of_ble_eq_true rfl) (fun R hR => ?_); rw [Try.results114] at hR; refine wg_run ?_; (simp only [Try.f114, go_sem])
  refine wd_for [0, 1, 7, 8] (fun k => [.one (.sl (coR l)), .one (.fn g []), .one (.sc (.int .i64 l.length)), .one (.sc (.int .i64 (k : Nat)))]) (fun k => [])
      (fun k => k ≤ l.length ∧ coidx p k (l.drop k) = coidx p 0 l) (fun k => l.length - k) 0 ⟨Nat.zero_le _, rfl⟩ (head_at [] (by (simp only [go_sem]); first | done | rfl) (by (simp only [go_sem]); first | done | rfl) ⟨rfl, rfl⟩) ?_
  rintro k ⟨hk, hs⟩ G hG
  refine wg_run ?_
  (simp only [go_sem])
  (first | refine wd_split _ (fun hb => ?_) (fun hb => ?_) | refine wd_nwant _ (fun hb => ?_) (fun hb => ?_) | refine wm_nwant _ (fun hb => ?_) (fun hb => ?_) | refine wd_want _ (fun hb => ?_) (fun hb => ?_) | refine wm_want _ (fun hb => ?_) (fun hb => ?_) | refine wt_nwant _ (fun hb => ?_) (fun hb => ?_) | refine wt_want _ (fun hb => ?_) (fun hb => ?_)) <;> (simp only [go_sem, hb])
  · have hk1 : k < l.length := by have := of_decide_eq_true hb; omega
    rw [codrop_kid hk1, coidx] at hs
    have hw1 := wrap_succ hk1 (by omega)
    (first | refine wd_cl [] (by (simp only [go_sem]); first | done | rfl) (hg k hk1) ?_ | refine wm_cl [] (by (simp only [go_sem]); first | done | rfl) (hg k hk1) (by (simp only [go_sem]); first | done | rfl) (by (simp only [go_sem]); first | done | rfl) ?_ | refine wt_cl [] (by (simp only [go_sem]); first | done | rfl) (hg k hk1) (by (simp only [go_sem]); first | done | rfl) (by (simp only [go_sem]); first | done | rfl) ?_); rintro _ _ ⟨rfl, rfl⟩; (simp only [go_sem])
    repeat' (first | (simp only [go_sem, hw1]) | ((first | refine wd_split _ (fun hb => ?_) (fun hb => ?_) | refine wd_nwant _ (fun hb => ?_) (fun hb => ?_) | refine wm_nwant _ (fun hb => ?_) (fun hb => ?_) | refine wd_want _ (fun hb => ?_) (fun hb => ?_) | refine wm_want _ (fun hb => ?_) (fun hb => ?_) | refine wt_nwant _ (fun hb => ?_) (fun hb => ?_) | refine wt_want _ (fun hb => ?_) (fun hb => ?_)) <;> (simp only [go_sem, hb, hw1])) | (refine wm_done ?_; (simp only [go_sem, hw1])) | (refine wt_done ?_; (simp only [go_sem, hw1])) | (refine wg_run ?_; (simp only [go_sem, hw1])) | (refine wt_fork (by (simp only [go_sem]); first | done | rfl) ?_ ?_ <;> (simp only [go_sem, hw1])))
    · (refine hR _ (ret_at [] (by (simp only [go_sem]); first | done | rfl) (by (simp only [go_sem]); first | done | rfl) ⟨?_, ?_⟩))
      · simpa [hb] using hs
      · rfl
    · exact hG (k + 1) _ _ ⟨by omega, by simpa [hb] using hs⟩ (by omega) (head_at [] (by (simp only [go_sem]); first | done | rfl) (by (simp only [go_sem]); first | done | rfl) ⟨rfl, rfl⟩)
  · have hk1 : ¬ k < l.length := by have := of_decide_eq_false hb; omega
    rw [List.drop_eq_nil_of_le (by omega), coidx] at hs
    (refine hR _ (ret_at [] (by (simp only [go_sem]); first | done | rfl) (by (simp only [go_sem]); first | done | rfl) ⟨?_, ?_⟩))
    · rw [← hs]
    · rfl
theorem coContainsFunc0 (g : FuncId) (p : Co → Bool) (l : List Co) (hl : l.length < 4611686018427387904)
    (hg : ∀ k, k < l.length → ACl Try.prog g [.agg (coC (coKid l k))] [] (fun r H' => r = .one (.sc (.bool (p (coKid l k)))) ∧ H' = [])) :
    ACl Try.prog 101 [.one (.sl (coR l)), .one (.fn g [])] [] (fun r H' => r = .one (.sc (.bool (l.any p))) ∧ H' = []) := by
  have hi := coIndexFunc0 g p l hl hg
  refine acl_in Try.func101 rfl isfn_101 (Nat.le_of_ble_eq_true rfl) (fun R hR => ?_); rw [Try.results101] at hR; refine wg_run ?_; (simp only [Try.f101, go_sem])
  (first | refine wd_cl [] (by (simp only [go_sem]); first | done | rfl) (hi) ?_ | refine wm_cl [] (by (simp only [go_sem]); first | done | rfl) (hi) (by (simp only [go_sem]); first | done | rfl) (by (simp only [go_sem]); first | done | rfl) ?_ | refine wt_cl [] (by (simp only [go_sem]); first | done | rfl) (hi) (by (simp only [go_sem]); first | done | rfl) (by (simp only [go_sem]); first | done | rfl) ?_); rintro _ _ ⟨rfl, rfl⟩; (simp only [go_sem])
  (refine hR _ (ret_at [] (by (simp only [go_sem]); first | done | rfl) (by (simp only [go_sem]); first | done | rfl) ⟨?_, ?_⟩))
  · rw [← coidx_any p l 0]
  · rfl
theorem coIndexFunc1 (g : FuncId) (d : Int) (p : Co → Bool) (l : List Co) (hl : l.length < 4611686018427387904)
    (hg : ∀ k, k < l.length → ACl Try.prog g [.agg (coC (coKid l k)), .one (.ptr 1 0 0 0)] [⟨1, 3, .mut, [[.sc (.int .i64 d)]]⟩] (fun r H' => r = .one (.sc (.bool (p (coKid l k)))) ∧ H' = [⟨1, 3, .mut, [[.sc (.int .i64 d)]]⟩])) :
    ACl Try.prog 114 [.one (.sl (coR l)), .one (.fn g [.ptr 1 0 0 0])] [⟨1, 3, .mut, [[.sc (.int .i64 d)]]⟩] (fun r H' => r = .one (.sc (.int .i64 (coidx p 0 l))) ∧ H' = [⟨1, 3, .mut, [[.sc (.int .i64 d)]]⟩]) := by
  refine acl_in Try.func114 rfl isfn_114 (Nat.le_of_ble_eq_true rfl) (fun R hR => ?_); rw [Try.results114] at hR; refine wg_run ?_; (simp only [Try.f114, go_sem])
  refine wd_for [0, 1, 7, 8] (fun k => [.one (.sl (coR l)), .one (.fn g [.ptr 1 0 0 0]), .one (.sc (.int .i64 l.length)), .one (.sc (.int .i64 (k : Nat)))]) (fun k => [⟨1, 3, .mut, [[.sc (.int .i64 d)]]⟩])
      (fun k => k ≤ l.length ∧ coidx p k (l.drop k) = coidx p 0 l) (fun k => l.length - k) 0 ⟨Nat.zero_le _, rfl⟩ (head_at [] (by (simp only [go_sem]); first | done | rfl) (by (simp only [go_sem]); first | done | rfl) ⟨rfl, rfl⟩) ?_
  rintro k ⟨hk, hs⟩ G hG
  refine wg_run ?_
  (simp only [go_sem])
  (first | refine wd_split _ (fun hb => ?_) (fun hb => ?_) | refine wd_nwant _ (fun hb => ?_) (fun hb => ?_) | refine wm_nwant _ (fun hb => ?_) (fun hb => ?_) | refine wd_want _ (fun hb => ?_) (fun hb => ?_) | refine wm_want _ (fun hb => ?_) (fun hb => ?_) | refine wt_nwant _ (fun hb => ?_) (fun hb => ?_) | refine wt_want _ (fun hb => ?_) (fun hb => ?_)) <;> (simp only [go_sem, hb])
  · have hk1 : k < l.length := by have := of_decide_eq_true hb; omega
    rw [codrop_kid hk1, coidx] at hs
    have hw1 := wrap_succ hk1 (by omega)
    (first | refine wd_cl [0] (by (simp only [go_sem]); first | done | rfl) (hg k hk1) ?_ | refine wm_cl [0] (by (simp only [go_sem]); first | done | rfl) (hg k hk1) (by (simp only [go_sem]); first | done | rfl) (by (simp only [go_sem]); first | done | rfl) ?_ | refine wt_cl [0] (by (simp only [go_sem]); first | done | rfl) (hg k hk1) (by (simp only [go_sem]); first | done | rfl) (by (simp only [go_sem]); first | done | rfl) ?_); rintro _ _ ⟨rfl, rfl⟩; (simp only [go_sem])
    repeat' (first | (simp only [go_sem, hw1]) | ((first | refine wd_split _ (fun hb => ?_) (fun hb => ?_) | refine wd_nwant _ (fun hb => ?_) (fun hb => ?_) | refine wm_nwant _ (fun hb => ?_) (fun hb => ?_) | refine wd_want _ (fun hb => ?_) (fun hb => ?_) | refine wm_want _ (fun hb => ?_) (fun hb => ?_) | refine wt_nwant _ (fun hb => ?_) (fun hb => ?_) | refine wt_want _ (fun hb => ?_) (fun hb => ?_)) <;> (simp only [go_sem, hb, hw1])) | (refine wm_done ?_; (simp only [go_sem, hw1])) | (refine wt_done ?_; (simp only [go_sem, hw1])) | (refine wg_run ?_; (simp only [go_sem, hw1])) | (refine wt_fork (by (simp only [go_sem]); first | done | rfl) ?_ ?_ <;> (simp only [go_sem, hw1])))
    · (refine hR _ (ret_at [] (by (simp only [go_sem]); first | done | rfl) (by (simp only [go_sem]); first | done | rfl) ⟨?_, ?_⟩))
      · simpa [hb] using hs
      · rfl
    · exact hG (k + 1) _ _ ⟨by omega, by simpa [hb] using hs⟩ (by omega) (head_at [] (by (simp only [go_sem]); first | done | rfl) (by (simp only [go_sem]); first | done | rfl) ⟨rfl, rfl⟩)
  · have hk1 : ¬ k < l.length := by have := of_decide_eq_false hb; omega
    rw [List.drop_eq_nil_of_le (by omega), coidx] at hs
    (refine hR _ (ret_at [] (by (simp only [go_sem]); first | done | rfl) (by (simp only [go_sem]); first | done | rfl) ⟨?_, ?_⟩))
    · rw [← hs]
    · rfl
theorem coContainsFunc1 (g : FuncId) (d : Int) (p : Co → Bool) (l : List Co) (hl : l.length < 4611686018427387904)
    (hg : ∀ k, k < l.length → ACl Try.prog g [.agg (coC (coKid l k)), .one (.ptr 1 0 0 0)] [⟨1, 3, .mut, [[.sc (.int .i64 d)]]⟩] (fun r H' => r = .one (.sc (.bool (p (coKid l k)))) ∧ H' = [⟨1, 3, .mut, [[.sc (.int .i64 d)]]⟩])) :
    ACl Try.prog 101 [.one (.sl (coR l)), .one (.fn g [.ptr 1 0 0 0])] [⟨1, 3, .mut, [[.sc (.int .i64 d)]]⟩] (fun r H' => r = .one (.sc (.bool (l.any p))) ∧ H' = [⟨1, 3, .mut, [[.sc (.int .i64 d)]]⟩]) := by
  have hi := coIndexFunc1 g d p l hl hg
  refine acl_in Try.func101 rfl isfn_101 (Nat.le_of_ble_eq_true rfl) (fun R hR => ?_); rw [Try.results101] at hR; refine wg_run ?_; (simp only [Try.f101, go_sem])
  (first | refine wd_cl [0] (by (simp only [go_sem]); first | done | rfl) (hi) ?_ | refine wm_cl [0] (by (simp only [go_sem]); first | done | rfl) (hi) (by (simp only [go_sem]); first | done | rfl) (by (simp only [go_sem]); first | done | rfl) ?_ | refine wt_cl [0] (by (simp only [go_sem]); first | done | rfl) (hi) (by (simp only [go_sem]); first | done | rfl) (by (simp only [go_sem]); first | done | rfl) ?_); rintro _ _ ⟨rfl, rfl⟩; (simp only [go_sem])
  (refine hR _ (ret_at [] (by (simp only [go_sem]); first | done | rfl) (by (simp only [go_sem]); first | done | rfl) ⟨?_, ?_⟩))
  · rw [← coidx_any p l 0]
  · rfl
end Go.Proofs.Ytbiobfbonpiiiaa
/- Types: the reference's functions, on shadows. -/
namespace Go.Proofs.Ytbiobfbonpiiiaa
open Go.RowKit Go.Proofs.Sh Go.Proofs.Grad
set_option maxRecDepth 100000
set_option maxHeartbeats 1000000
@[go_sem] theorem kind_mk (k : Int) (l : List Ty) : (Ty.mk k l).kind = k := rfl
@[go_sem] theorem kids_mk (k : Int) (l : List Ty) : (Ty.mk k l).kids = l := rfl
theorem l1Kids (k : Int) : AFn Try.prog 105 [.one (.sc (.int .i64 k))] (.one (.sc (.int .i64 (kidsN k)))) := by
  refine fn_in ?_; refine acl_in Try.func105 rfl isfn_105 (Nat.le_of_ble_eq_true rfl) (fun R hR => ?_); rw [Try.results105] at hR; refine wg_run ?_; (simp only [Try.f105, go_sem])
  repeat' (first | ((first | refine wd_split _ (fun hb => ?_) (fun hb => ?_) | refine wd_nwant _ (fun hb => ?_) (fun hb => ?_) | refine wm_nwant _ (fun hb => ?_) (fun hb => ?_) | refine wd_want _ (fun hb => ?_) (fun hb => ?_) | refine wm_want _ (fun hb => ?_) (fun hb => ?_) | refine wt_nwant _ (fun hb => ?_) (fun hb => ?_) | refine wt_want _ (fun hb => ?_) (fun hb => ?_)) <;> (simp only [go_sem, hb])) | (refine wm_done ?_; (simp only [go_sem])) | (refine wt_done ?_; (simp only [go_sem])) | (refine wg_run ?_; (simp only [go_sem])) | (refine wt_fork (by (simp only [go_sem]); first | done | rfl) ?_ ?_ <;> (simp only [go_sem])))
  all_goals (refine hR _ (ret_at [] (by (simp only [go_sem]); first | done | rfl) (by (simp only [go_sem]); first | done | rfl) ⟨?_, rfl⟩))
  all_goals simp_all [kidsN]
@[go_sem] theorem kidsN_1 : kidsN 1 = 0 := rfl
@[go_sem] theorem kidsN_2 : kidsN 2 = 0 := rfl
@[go_sem] theorem kidsN_3 : kidsN 3 = 0 := rfl
@[go_sem] theorem kidsN_4 : kidsN 4 = 2 := rfl
@[go_sem] theorem kidsN_5 : kidsN 5 = 2 := rfl
theorem l1Shape (m : Nat) (hm : m ≤ 4) : ∀ t : Ty, AFn Try.prog 104 [.agg (tyC t), .one (.sc (.int .i64 m))] (.one (.sc (.bool (t.shape m)))) := by
  induction m with
  | zero =>
    intro t
    refine fn_in ?_; refine acl_in Try.func104 rfl isfn_104 (Nat.le_of_ble_eq_true rfl) (fun R hR => ?_); rw [Try.results104] at hR; refine wg_run ?_; (simp only [Try.f104, go_sem])
    (refine wd_mix 0 [] follows (by kernel_rfl) (by (simp only [go_sem]); first | done | rfl) ?_; (simp only [go_sem]))
    repeat' (first | ((first | refine wd_split _ (fun hb => ?_) (fun hb => ?_) | refine wd_nwant _ (fun hb => ?_) (fun hb => ?_) | refine wm_nwant _ (fun hb => ?_) (fun hb => ?_) | refine wd_want _ (fun hb => ?_) (fun hb => ?_) | refine wm_want _ (fun hb => ?_) (fun hb => ?_) | refine wt_nwant _ (fun hb => ?_) (fun hb => ?_) | refine wt_want _ (fun hb => ?_) (fun hb => ?_)) <;> (simp only [go_sem, hb])) | (refine wm_done ?_; (simp only [go_sem])) | (refine wt_done ?_; (simp only [go_sem])) | (refine wg_run ?_; (simp only [go_sem])) | (refine wt_fork (by (simp only [go_sem]); first | done | rfl) ?_ ?_ <;> (simp only [go_sem])))
    all_goals (refine hR _ (ret_at [] (by (simp only [go_sem]); first | done | rfl) (by (simp only [go_sem]); first | done | rfl) ⟨?_, rfl⟩))
    all_goals rfl
  | succ m ih =>
    intro t
    have hd : decide ((((m + 1 : Nat) : Int) < 1)) = false := by simp; omega
    have hw : IntKind.i64.wrap (((m + 1 : Nat) : Int) - 1) = (m : Int) := by rw [IntWalk.i64_in _ (by omega)]; omega
    refine fn_in ?_; refine acl_in Try.func104 rfl isfn_104 (Nat.le_of_ble_eq_true rfl) (fun R hR => ?_); rw [Try.results104] at hR; refine wg_run ?_; (simp only [Try.f104, go_sem])
    (refine wd_mix 0 [] follows (by kernel_rfl) (by (simp only [go_sem]); first | done | rfl) ?_; (simp only [go_sem]))
    (simp only [go_sem, hd])
    (first | refine wd_fn (by (simp only [go_sem]); first | done | rfl) (l1Kids _) ?_ | refine wm_fn (by (simp only [go_sem]); first | done | rfl) (l1Kids _) (by (simp only [go_sem]); first | done | rfl) (by (simp only [go_sem]); first | done | rfl) ?_ | refine wt_fn (by (simp only [go_sem]); first | done | rfl) (l1Kids _) (by (simp only [go_sem]); first | done | rfl) (by (simp only [go_sem]); first | done | rfl) ?_); (simp only [go_sem])
    repeat' (first | ((first | refine wd_split _ (fun hb => ?_) (fun hb => ?_) | refine wd_nwant _ (fun hb => ?_) (fun hb => ?_) | refine wm_nwant _ (fun hb => ?_) (fun hb => ?_) | refine wd_want _ (fun hb => ?_) (fun hb => ?_) | refine wm_want _ (fun hb => ?_) (fun hb => ?_) | refine wt_nwant _ (fun hb => ?_) (fun hb => ?_) | refine wt_want _ (fun hb => ?_) (fun hb => ?_)) <;> (simp only [go_sem, hb])) | (refine wm_done ?_; (simp only [go_sem])) | (refine wt_done ?_; (simp only [go_sem])) | (refine wg_run ?_; (simp only [go_sem])) | (refine wt_fork (by (simp only [go_sem]); first | done | rfl) ?_ ?_ <;> (simp only [go_sem])))
    · (refine hR _ (ret_at [] (by (simp only [go_sem]); first | done | rfl) (by (simp only [go_sem]); first | done | rfl) ⟨?_, rfl⟩))
      simp_all [Ty.shape]
    · refine wd_for [1, 2, 5] (fun k => [.one (.sc (.int .i64 ((m + 1 : Nat) : Int))), .one (.ptr 2 0 0 0), .one (.sc (.int .i64 (k : Nat)))]) (fun k => [⟨2, 25, .mut, [tyC t]⟩])
        (fun k => k ≤ t.kids.length ∧ (t.kids.drop k).all (Ty.shape m) = t.shape (m + 1)) (fun k => t.kids.length - k) 0 ⟨Nat.zero_le _, ?_⟩ (head_at [0] (by (simp only [go_sem]); first | done | rfl) (by (simp only [go_sem]); first | done | rfl) ⟨rfl, rfl⟩) ?_
      · clear hR
        simp_all [Ty.shape]
      rintro k ⟨hk, hs⟩ G hG
      refine wg_run ?_
      (simp only [go_sem])
      have hl : t.kids.length < 3 := by simp [kidsN] at hb; split at hb <;> try split at hb
                                        all_goals omega
      (first | refine wd_split _ (fun hb => ?_) (fun hb => ?_) | refine wd_nwant _ (fun hb => ?_) (fun hb => ?_) | refine wm_nwant _ (fun hb => ?_) (fun hb => ?_) | refine wd_want _ (fun hb => ?_) (fun hb => ?_) | refine wm_want _ (fun hb => ?_) (fun hb => ?_) | refine wt_nwant _ (fun hb => ?_) (fun hb => ?_) | refine wt_want _ (fun hb => ?_) (fun hb => ?_)) <;> (simp only [go_sem, hb, hw])
      · have hk1 : k < t.kids.length := by have := of_decide_eq_true hb; omega
        rw [drop_kid hk1, List.all_cons] at hs
        have hw1 := wrap_succ hk1 (by omega)
        (first | refine wd_fn (by (simp only [go_sem]); first | done | rfl) (ih (by omega) _) ?_ | refine wm_fn (by (simp only [go_sem]); first | done | rfl) (ih (by omega) _) (by (simp only [go_sem]); first | done | rfl) (by (simp only [go_sem]); first | done | rfl) ?_ | refine wt_fn (by (simp only [go_sem]); first | done | rfl) (ih (by omega) _) (by (simp only [go_sem]); first | done | rfl) (by (simp only [go_sem]); first | done | rfl) ?_); (simp only [go_sem])
        repeat' (first | (simp only [go_sem, hw1]) | ((first | refine wd_split _ (fun hb => ?_) (fun hb => ?_) | refine wd_nwant _ (fun hb => ?_) (fun hb => ?_) | refine wm_nwant _ (fun hb => ?_) (fun hb => ?_) | refine wd_want _ (fun hb => ?_) (fun hb => ?_) | refine wm_want _ (fun hb => ?_) (fun hb => ?_) | refine wt_nwant _ (fun hb => ?_) (fun hb => ?_) | refine wt_want _ (fun hb => ?_) (fun hb => ?_)) <;> (simp only [go_sem, hb, hw1])) | (refine wm_done ?_; (simp only [go_sem, hw1])) | (refine wt_done ?_; (simp only [go_sem, hw1])) | (refine wg_run ?_; (simp only [go_sem, hw1])) | (refine wt_fork (by (simp only [go_sem]); first | done | rfl) ?_ ?_ <;> (simp only [go_sem, hw1])))
        · exact hG (k + 1) _ _ ⟨by omega, by simpa [hb] using hs⟩ (by omega) (head_at [0] (by (simp only [go_sem]); first | done | rfl) (by (simp only [go_sem]); first | done | rfl) ⟨rfl, rfl⟩)
        · (refine hR _ (ret_at [] (by (simp only [go_sem]); first | done | rfl) (by (simp only [go_sem]); first | done | rfl) ⟨?_, rfl⟩))
          simpa [hb] using hs
      · have hk1 : ¬ k < t.kids.length := by have := of_decide_eq_false hb; omega
        rw [List.drop_eq_nil_of_le (by omega)] at hs
        (refine hR _ (ret_at [] (by (simp only [go_sem]); first | done | rfl) (by (simp only [go_sem]); first | done | rfl) ⟨?_, rfl⟩))
        simpa using hs
theorem sValid (t : Ty) : AFn Try.prog 69 [.agg (tyC t)] (.one (.sc (.bool t.valid))) := by
  refine fn_in ?_; refine acl_in Try.func69 rfl isfn_69 (Nat.le_of_ble_eq_true rfl) (fun R hR => ?_); rw [Try.results69] at hR; refine wg_run ?_; (simp only [Try.f69, go_sem])
  repeat' (first | (first | ((first | refine wd_split _ (fun hb => ?_) (fun hb => ?_) | refine wd_nwant _ (fun hb => ?_) (fun hb => ?_) | refine wm_nwant _ (fun hb => ?_) (fun hb => ?_) | refine wd_want _ (fun hb => ?_) (fun hb => ?_) | refine wm_want _ (fun hb => ?_) (fun hb => ?_) | refine wt_nwant _ (fun hb => ?_) (fun hb => ?_) | refine wt_want _ (fun hb => ?_) (fun hb => ?_)) <;> (simp only [go_sem, hb])) | (refine wm_done ?_; (simp only [go_sem])) | (refine wt_done ?_; (simp only [go_sem])) | (refine wg_run ?_; (simp only [go_sem])) | (refine wt_fork (by (simp only [go_sem]); first | done | rfl) ?_ ?_ <;> (simp only [go_sem]))) | (first | refine wd_fn (by (simp only [go_sem]); first | done | rfl) (l1Shape 4 (by omega) _) ?_ | refine wm_fn (by (simp only [go_sem]); first | done | rfl) (l1Shape 4 (by omega) _) (by (simp only [go_sem]); first | done | rfl) (by (simp only [go_sem]); first | done | rfl) ?_ | refine wt_fn (by (simp only [go_sem]); first | done | rfl) (l1Shape 4 (by omega) _) (by (simp only [go_sem]); first | done | rfl) (by (simp only [go_sem]); first | done | rfl) ?_); (simp only [go_sem]))
  (refine hR _ (ret_at [] (by (simp only [go_sem]); first | done | rfl) (by (simp only [go_sem]); first | done | rfl) ⟨?_, rfl⟩))
  rfl
end Go.Proofs.Ytbiobfbonpiiiaa
/- Numbers and labels, on shadows. -/
namespace Go.Proofs.Ytbiobfbonpiiiaa
open Go.RowKit Go.Proofs.Sh Go.Proofs.Grad
set_option maxRecDepth 100000
set_option maxHeartbeats 4000000
theorem within (n lo hi : Int) : AFn Try.prog 86 [.one (.sc (.int .i64 n)), .one (.sc (.int .i64 lo)), .one (.sc (.int .i64 hi))] (.one (.sc (.bool (decide (lo ≤ n) && decide (n ≤ hi))))) := by
  refine fn_in ?_; refine acl_in Try.func86 rfl isfn_86 (Nat.le_of_ble_eq_true rfl) (fun R hR => ?_); rw [Try.results86] at hR; refine wg_run ?_; (simp only [Try.f86, go_sem])
  repeat' (first | ((first | refine wd_split _ (fun hb => ?_) (fun hb => ?_) | refine wd_nwant _ (fun hb => ?_) (fun hb => ?_) | refine wm_nwant _ (fun hb => ?_) (fun hb => ?_) | refine wd_want _ (fun hb => ?_) (fun hb => ?_) | refine wm_want _ (fun hb => ?_) (fun hb => ?_) | refine wt_nwant _ (fun hb => ?_) (fun hb => ?_) | refine wt_want _ (fun hb => ?_) (fun hb => ?_)) <;> (simp only [go_sem, hb])) | (refine wm_done ?_; (simp only [go_sem])) | (refine wt_done ?_; (simp only [go_sem])) | (refine wg_run ?_; (simp only [go_sem])) | (refine wt_fork (by (simp only [go_sem]); first | done | rfl) ?_ ?_ <;> (simp only [go_sem])))
  all_goals (refine hR _ (ret_at [] (by (simp only [go_sem]); first | done | rfl) (by (simp only [go_sem]); first | done | rfl) ⟨?_, rfl⟩))
  all_goals simp [hb]
theorem isLabel (n : Int) : AFn Try.prog 50 [.one (.sc (.int .i64 n))] (.one (.sc (.bool (lab n)))) := by
  refine fn_in ?_; refine acl_in Try.func50 rfl isfn_50 (Nat.le_of_ble_eq_true rfl) (fun R hR => ?_); rw [Try.results50] at hR; refine wg_run ?_; (simp only [Try.f50, go_sem])
  repeat' (first | (first | ((first | refine wd_split _ (fun hb => ?_) (fun hb => ?_) | refine wd_nwant _ (fun hb => ?_) (fun hb => ?_) | refine wm_nwant _ (fun hb => ?_) (fun hb => ?_) | refine wd_want _ (fun hb => ?_) (fun hb => ?_) | refine wm_want _ (fun hb => ?_) (fun hb => ?_) | refine wt_nwant _ (fun hb => ?_) (fun hb => ?_) | refine wt_want _ (fun hb => ?_) (fun hb => ?_)) <;> (simp only [go_sem, hb])) | (refine wm_done ?_; (simp only [go_sem])) | (refine wt_done ?_; (simp only [go_sem])) | (refine wg_run ?_; (simp only [go_sem])) | (refine wt_fork (by (simp only [go_sem]); first | done | rfl) ?_ ?_ <;> (simp only [go_sem]))) | (first | refine wd_fn (by (simp only [go_sem]); first | done | rfl) (within _ _ _) ?_ | refine wm_fn (by (simp only [go_sem]); first | done | rfl) (within _ _ _) (by (simp only [go_sem]); first | done | rfl) (by (simp only [go_sem]); first | done | rfl) ?_ | refine wt_fn (by (simp only [go_sem]); first | done | rfl) (within _ _ _) (by (simp only [go_sem]); first | done | rfl) (by (simp only [go_sem]); first | done | rfl) ?_); (simp only [go_sem]))
  all_goals (refine hR _ (ret_at [] (by (simp only [go_sem]); first | done | rfl) (by (simp only [go_sem]); first | done | rfl) ⟨?_, rfl⟩))
  all_goals simp_all [lab]
  all_goals (intros; omega)
/-- the absolute value of a label, 0 for none -/
def labN (n : Int) : Int := if n < -99 ∨ n > 99 then 0 else if n < 0 then -n else n
theorem l1Abs (n : Int) : AFn Try.prog 89 [.one (.sc (.int .i64 n))] (.one (.sc (.int .i64 (labN n)))) := by
  by_cases h1 : n < -99
  · have d1 : decide (n < -99) = true := by simp; omega
    have e : labN n = 0 := by unfold labN; rw [if_pos (by omega)]
    rw [e]
    refine fn_in ?_; refine acl_in Try.func89 rfl isfn_89 (Nat.le_of_ble_eq_true rfl) (fun R hR => ?_); rw [Try.results89] at hR; refine wg_run ?_; (simp only [Try.f89, go_sem, d1])
    (refine hR _ (ret_at [] (by (simp only [go_sem]); first | done | rfl) (by (simp only [go_sem]); first | done | rfl) ⟨rfl, rfl⟩))
  · have d1 : decide (n < -99) = false := by simp; omega
    by_cases h2 : n > 99
    · have d2 : decide (n > 99) = true := by simp; omega
      have e : labN n = 0 := by unfold labN; rw [if_pos (by omega)]
      rw [e]
      refine fn_in ?_; refine acl_in Try.func89 rfl isfn_89 (Nat.le_of_ble_eq_true rfl) (fun R hR => ?_); rw [Try.results89] at hR; refine wg_run ?_; (simp only [Try.f89, go_sem, d1, d2])
      (refine hR _ (ret_at [] (by (simp only [go_sem]); first | done | rfl) (by (simp only [go_sem]); first | done | rfl) ⟨rfl, rfl⟩))
    · have d2 : decide (n > 99) = false := by simp; omega
      have hw : IntKind.i64.wrap (0 - n) = -n := by rw [IntWalk.i64_in _ (by omega)]; omega
      by_cases h3 : n < 0
      · have d3 : decide (n < 0) = true := by simp; omega
        have e : labN n = -n := by unfold labN; rw [if_neg (by omega), if_pos h3]
        rw [e]
        refine fn_in ?_; refine acl_in Try.func89 rfl isfn_89 (Nat.le_of_ble_eq_true rfl) (fun R hR => ?_); rw [Try.results89] at hR; refine wg_run ?_; (simp only [Try.f89, go_sem, d1, d2, d3, hw])
        (refine hR _ (ret_at [] (by (simp only [go_sem]); first | done | rfl) (by (simp only [go_sem]); first | done | rfl) ⟨rfl, rfl⟩))
      · have d3 : decide (n < 0) = false := by simp; omega
        have e : labN n = n := by unfold labN; rw [if_neg (by omega), if_neg h3]
        rw [e]
        refine fn_in ?_; refine acl_in Try.func89 rfl isfn_89 (Nat.le_of_ble_eq_true rfl) (fun R hR => ?_); rw [Try.results89] at hR; refine wg_run ?_; (simp only [Try.f89, go_sem, d1, d2, d3])
        (refine hR _ (ret_at [] (by (simp only [go_sem]); first | done | rfl) (by (simp only [go_sem]); first | done | rfl) ⟨rfl, rfl⟩))
theorem l6Label (n : Int) : AFn Try.prog 53 [.one (.sc (.int .i64 n))] (.one (.sc (.bool (lab n)))) := by
  refine fn_in ?_; refine acl_in Try.func53 rfl isfn_53 (Nat.le_of_ble_eq_true rfl) (fun R hR => ?_); rw [Try.results53] at hR; refine wg_run ?_; (simp only [Try.f53, go_sem])
  (first | refine wd_fn (by (simp only [go_sem]); first | done | rfl) (l1Abs _) ?_ | refine wm_fn (by (simp only [go_sem]); first | done | rfl) (l1Abs _) (by (simp only [go_sem]); first | done | rfl) (by (simp only [go_sem]); first | done | rfl) ?_ | refine wt_fn (by (simp only [go_sem]); first | done | rfl) (l1Abs _) (by (simp only [go_sem]); first | done | rfl) (by (simp only [go_sem]); first | done | rfl) ?_); (simp only [go_sem])
  (refine hR _ (ret_at [] (by (simp only [go_sem]); first | done | rfl) (by (simp only [go_sem]); first | done | rfl) ⟨?_, rfl⟩))
  have : decide (labN n ≥ 1) = lab n := by
    rw [Bool.eq_iff_iff]; unfold labN lab; simp; split <;> (try split) <;> omega
  rw [this]
end Go.Proofs.Ytbiobfbonpiiiaa
/- Coercions: the program's checks, on shadows. -/
namespace Go.Proofs.Sh
open Go.Proofs.Grad
@[go_sem] theorem kid_kind (g : Int) : (K.id g).co.kind = 1 := rfl
@[go_sem] theorem kid_tag (g : Int) : (K.id g).co.tag = g := rfl
@[go_sem] theorem kid_label (g : Int) : (K.id g).co.label = 0 := rfl
@[go_sem] theorem kid_kids (g : Int) : (K.id g).co.kids = [] := rfl
@[go_sem] theorem kfn_kind (a : K) (b : K) : (K.fn a b).co.kind = 2 := rfl
@[go_sem] theorem kfn_tag (a : K) (b : K) : (K.fn a b).co.tag = 0 := rfl
@[go_sem] theorem kfn_label (a : K) (b : K) : (K.fn a b).co.label = 0 := rfl
@[go_sem] theorem kfn_kids (a : K) (b : K) : (K.fn a b).co.kids = [a.co, b.co] := rfl
@[go_sem] theorem kpr_kind (a : K) (b : K) : (K.pr a b).co.kind = 3 := rfl
@[go_sem] theorem kpr_tag (a : K) (b : K) : (K.pr a b).co.tag = 0 := rfl
@[go_sem] theorem kpr_label (a : K) (b : K) : (K.pr a b).co.label = 0 := rfl
@[go_sem] theorem kpr_kids (a : K) (b : K) : (K.pr a b).co.kids = [a.co, b.co] := rfl
@[go_sem] theorem kinj_kind (c : K) : (K.inj c).co.kind = 4 := rfl
@[go_sem] theorem kinj_tag (c : K) : (K.inj c).co.tag = 0 := rfl
@[go_sem] theorem kinj_label (c : K) : (K.inj c).co.label = 0 := rfl
@[go_sem] theorem kinj_kids (c : K) : (K.inj c).co.kids = [c.co] := rfl
@[go_sem] theorem kprj_kind (l : Int) (c : K) : (K.prj l c).co.kind = 5 := rfl
@[go_sem] theorem kprj_tag (l : Int) (c : K) : (K.prj l c).co.tag = 0 := rfl
@[go_sem] theorem kprj_label (l : Int) (c : K) : (K.prj l c).co.label = l := rfl
@[go_sem] theorem kprj_kids (l : Int) (c : K) : (K.prj l c).co.kids = [c.co] := rfl
@[go_sem] theorem kfail_kind (l : Int) (g : Int) : (K.fail l g).co.kind = 6 := rfl
@[go_sem] theorem kfail_tag (l : Int) (g : Int) : (K.fail l g).co.tag = g := rfl
@[go_sem] theorem kfail_label (l : Int) (g : Int) : (K.fail l g).co.label = l := rfl
@[go_sem] theorem kfail_kids (l : Int) (g : Int) : (K.fail l g).co.kids = [] := rfl
/-- how many operands -/
def coN (k : Int) : Int := if k = 1 then 0 else if k = 2 then 2 else if k = 3 then 2 else if k = 4 then 1 else if k = 5 then 1 else if k = 6 then 0 else -1
@[go_sem] theorem coN_1 : coN 1 = 0 := rfl
@[go_sem] theorem coN_2 : coN 2 = 2 := rfl
@[go_sem] theorem coN_3 : coN 3 = 2 := rfl
@[go_sem] theorem coN_4 : coN 4 = 1 := rfl
@[go_sem] theorem coN_5 : coN 5 = 1 := rfl
@[go_sem] theorem coN_6 : coN 6 = 0 := rfl
end Go.Proofs.Sh
namespace Go.Proofs.Ytbiobfbonpiiiaa
open Go.RowKit Go.Proofs.Sh Go.Proofs.Grad
set_option maxRecDepth 100000
set_option maxHeartbeats 4000000
theorem coOperands (k : Int) : AFn Try.prog 99 [.one (.sc (.int .i64 k))] (.one (.sc (.int .i64 (coN k)))) := by
  have hw := within k 1 6
  by_cases h : 1 ≤ k ∧ k ≤ 6
  · obtain rfl | rfl | rfl | rfl | rfl | rfl : k = 1 ∨ k = 2 ∨ k = 3 ∨ k = 4 ∨ k = 5 ∨ k = 6 := by omega
    all_goals
      refine fn_in ?_; refine acl_in Try.func99 rfl isfn_99 (Nat.le_of_ble_eq_true rfl) (fun R hR => ?_); rw [Try.results99] at hR; refine wg_run ?_; (simp only [Try.f99, go_sem])
      repeat' (first | (first | ((first | refine wd_split _ (fun hb => ?_) (fun hb => ?_) | refine wd_nwant _ (fun hb => ?_) (fun hb => ?_) | refine wm_nwant _ (fun hb => ?_) (fun hb => ?_) | refine wd_want _ (fun hb => ?_) (fun hb => ?_) | refine wm_want _ (fun hb => ?_) (fun hb => ?_) | refine wt_nwant _ (fun hb => ?_) (fun hb => ?_) | refine wt_want _ (fun hb => ?_) (fun hb => ?_)) <;> (simp only [go_sem, hb])) | (refine wm_done ?_; (simp only [go_sem])) | (refine wt_done ?_; (simp only [go_sem])) | (refine wg_run ?_; (simp only [go_sem])) | (refine wt_fork (by (simp only [go_sem]); first | done | rfl) ?_ ?_ <;> (simp only [go_sem]))) | (first | refine wd_fn (by (simp only [go_sem]); first | done | rfl) (hw) ?_ | refine wm_fn (by (simp only [go_sem]); first | done | rfl) (hw) (by (simp only [go_sem]); first | done | rfl) (by (simp only [go_sem]); first | done | rfl) ?_ | refine wt_fn (by (simp only [go_sem]); first | done | rfl) (hw) (by (simp only [go_sem]); first | done | rfl) (by (simp only [go_sem]); first | done | rfl) ?_); (simp only [go_sem]))
      (refine hR _ (ret_at [] (by (simp only [go_sem]); first | done | rfl) (by (simp only [go_sem]); first | done | rfl) ⟨?_, rfl⟩))
      rfl
  · have hf : (decide (1 ≤ k) && decide (k ≤ 6)) = false := by simp; omega
    rw [hf] at hw
    refine fn_in ?_; refine acl_in Try.func99 rfl isfn_99 (Nat.le_of_ble_eq_true rfl) (fun R hR => ?_); rw [Try.results99] at hR; refine wg_run ?_; (simp only [Try.f99, go_sem])
    repeat' (first | (first | ((first | refine wd_split _ (fun hb => ?_) (fun hb => ?_) | refine wd_nwant _ (fun hb => ?_) (fun hb => ?_) | refine wm_nwant _ (fun hb => ?_) (fun hb => ?_) | refine wd_want _ (fun hb => ?_) (fun hb => ?_) | refine wm_want _ (fun hb => ?_) (fun hb => ?_) | refine wt_nwant _ (fun hb => ?_) (fun hb => ?_) | refine wt_want _ (fun hb => ?_) (fun hb => ?_)) <;> (simp only [go_sem, hb])) | (refine wm_done ?_; (simp only [go_sem])) | (refine wt_done ?_; (simp only [go_sem])) | (refine wg_run ?_; (simp only [go_sem])) | (refine wt_fork (by (simp only [go_sem]); first | done | rfl) ?_ ?_ <;> (simp only [go_sem]))) | (first | refine wd_fn (by (simp only [go_sem]); first | done | rfl) (hw) ?_ | refine wm_fn (by (simp only [go_sem]); first | done | rfl) (hw) (by (simp only [go_sem]); first | done | rfl) (by (simp only [go_sem]); first | done | rfl) ?_ | refine wt_fn (by (simp only [go_sem]); first | done | rfl) (hw) (by (simp only [go_sem]); first | done | rfl) (by (simp only [go_sem]); first | done | rfl) ?_); (simp only [go_sem]))
    (refine hR _ (ret_at [] (by (simp only [go_sem]); first | done | rfl) (by (simp only [go_sem]); first | done | rfl) ⟨?_, rfl⟩))
    have : coN k = -1 := by unfold coN; repeat' (first | rw [if_neg (by omega)]); 
    rw [this]
theorem coPlain (c : Co) : AFn Try.prog 100 [.agg (coC c)] (.one (.sc (.bool c.plain))) := by
  refine fn_in ?_; refine acl_in Try.func100 rfl isfn_100 (Nat.le_of_ble_eq_true rfl) (fun R hR => ?_); rw [Try.results100] at hR; refine wg_run ?_; (simp only [Try.f100, go_sem])
  repeat' (first | ((first | refine wd_split _ (fun hb => ?_) (fun hb => ?_) | refine wd_nwant _ (fun hb => ?_) (fun hb => ?_) | refine wm_nwant _ (fun hb => ?_) (fun hb => ?_) | refine wd_want _ (fun hb => ?_) (fun hb => ?_) | refine wm_want _ (fun hb => ?_) (fun hb => ?_) | refine wt_nwant _ (fun hb => ?_) (fun hb => ?_) | refine wt_want _ (fun hb => ?_) (fun hb => ?_)) <;> (simp only [go_sem, hb])) | (refine wm_done ?_; (simp only [go_sem])) | (refine wt_done ?_; (simp only [go_sem])) | (refine wg_run ?_; (simp only [go_sem])) | (refine wt_fork (by (simp only [go_sem]); first | done | rfl) ?_ ?_ <;> (simp only [go_sem])))
  all_goals (refine hR _ (ret_at [] (by (simp only [go_sem]); first | done | rfl) (by (simp only [go_sem]); first | done | rfl) ⟨?_, rfl⟩))
  all_goals simp_all [Co.plain]
theorem coAny (c : Co) : AFn Try.prog 92 [.agg (coC c)] (.one (.sc (.bool (c.kind == 1 && c.tag == 1)))) := by
  refine fn_in ?_; refine acl_in Try.func92 rfl isfn_92 (Nat.le_of_ble_eq_true rfl) (fun R hR => ?_); rw [Try.results92] at hR; refine wg_run ?_; (simp only [Try.f92, go_sem])
  repeat' (first | ((first | refine wd_split _ (fun hb => ?_) (fun hb => ?_) | refine wd_nwant _ (fun hb => ?_) (fun hb => ?_) | refine wm_nwant _ (fun hb => ?_) (fun hb => ?_) | refine wd_want _ (fun hb => ?_) (fun hb => ?_) | refine wm_want _ (fun hb => ?_) (fun hb => ?_) | refine wt_nwant _ (fun hb => ?_) (fun hb => ?_) | refine wt_want _ (fun hb => ?_) (fun hb => ?_)) <;> (simp only [go_sem, hb])) | (refine wm_done ?_; (simp only [go_sem])) | (refine wt_done ?_; (simp only [go_sem])) | (refine wg_run ?_; (simp only [go_sem])) | (refine wt_fork (by (simp only [go_sem]); first | done | rfl) ?_ ?_ <;> (simp only [go_sem])))
  all_goals (refine hR _ (ret_at [] (by (simp only [go_sem]); first | done | rfl) (by (simp only [go_sem]); first | done | rfl) ⟨?_, rfl⟩))
  all_goals simp_all
theorem coTag (k : K) : AFn Try.prog 94 [.agg (coC k.co)] (.one (.sc (.int .i64 k.tag))) := by
  induction k with
  | inj c ih =>
    refine fn_in ?_; refine acl_in Try.func94 rfl isfn_94 (Nat.le_of_ble_eq_true rfl) (fun R hR => ?_); rw [Try.results94] at hR; refine wg_run ?_; (simp only [Try.f94, go_sem])
    repeat' (first | (first | ((first | refine wd_split _ (fun hb => ?_) (fun hb => ?_) | refine wd_nwant _ (fun hb => ?_) (fun hb => ?_) | refine wm_nwant _ (fun hb => ?_) (fun hb => ?_) | refine wd_want _ (fun hb => ?_) (fun hb => ?_) | refine wm_want _ (fun hb => ?_) (fun hb => ?_) | refine wt_nwant _ (fun hb => ?_) (fun hb => ?_) | refine wt_want _ (fun hb => ?_) (fun hb => ?_)) <;> (simp only [go_sem, hb])) | (refine wm_done ?_; (simp only [go_sem])) | (refine wt_done ?_; (simp only [go_sem])) | (refine wg_run ?_; (simp only [go_sem])) | (refine wt_fork (by (simp only [go_sem]); first | done | rfl) ?_ ?_ <;> (simp only [go_sem]))) | (first | refine wd_fn (by (simp only [go_sem]); first | done | rfl) (ih) ?_ | refine wm_fn (by (simp only [go_sem]); first | done | rfl) (ih) (by (simp only [go_sem]); first | done | rfl) (by (simp only [go_sem]); first | done | rfl) ?_ | refine wt_fn (by (simp only [go_sem]); first | done | rfl) (ih) (by (simp only [go_sem]); first | done | rfl) (by (simp only [go_sem]); first | done | rfl) ?_); (simp only [go_sem]))
    (refine hR _ (ret_at [] (by (simp only [go_sem]); first | done | rfl) (by (simp only [go_sem]); first | done | rfl) ⟨rfl, rfl⟩))
  | _ =>
    refine fn_in ?_; refine acl_in Try.func94 rfl isfn_94 (Nat.le_of_ble_eq_true rfl) (fun R hR => ?_); rw [Try.results94] at hR; refine wg_run ?_; (simp only [Try.f94, go_sem])
    (refine hR _ (ret_at [] (by (simp only [go_sem]); first | done | rfl) (by (simp only [go_sem]); first | done | rfl) ⟨rfl, rfl⟩))
theorem coSame (n : Nat) (hn : n ≤ 4611686018427387904) : ∀ a b : Co, a.size < n → AFn Try.prog 16 [.agg (coC a), .agg (coC b)] (.one (.sc (.bool (a.same b)))) := by
  induction n with
  | zero => intro a b h; omega
  | succ n ih =>
    intro a b h
    have hl := colen_lt a
    have hk : ∀ k, k < a.kids.length → k < b.kids.length → AFn Try.prog 16 [.agg (coC (coKid a.kids k)), .agg (coC (coKid b.kids k))] (.one (.sc (.bool ((coKid a.kids k).same (coKid b.kids k))))) := fun k h1 h2 => ih (by omega) _ _ (by have := coKid_lt h1; omega)
    have hf := coEqFunc _ Co.same a.kids b.kids (by omega) hk
    have he : a.same b = (a.kind == b.kind && (a.tag == b.tag && (a.label == b.label && coall2 Co.same a.kids b.kids))) := by cases a; cases b; simp only [Co.same, Co.kind, Co.tag, Co.label, Co.kids, cosames_all2]
    clear hk ih
    rw [he]
    refine fn_in ?_; refine acl_in Try.func16 rfl isfn_16 (Nat.le_of_ble_eq_true rfl) (fun R hR => ?_); rw [Try.results16] at hR; refine wg_run ?_; (simp only [Try.f16, go_sem])
    repeat' (first | (first | ((first | refine wd_split _ (fun hb => ?_) (fun hb => ?_) | refine wd_nwant _ (fun hb => ?_) (fun hb => ?_) | refine wm_nwant _ (fun hb => ?_) (fun hb => ?_) | refine wd_want _ (fun hb => ?_) (fun hb => ?_) | refine wm_want _ (fun hb => ?_) (fun hb => ?_) | refine wt_nwant _ (fun hb => ?_) (fun hb => ?_) | refine wt_want _ (fun hb => ?_) (fun hb => ?_)) <;> (simp only [go_sem, hb])) | (refine wm_done ?_; (simp only [go_sem])) | (refine wt_done ?_; (simp only [go_sem])) | (refine wg_run ?_; (simp only [go_sem])) | (refine wt_fork (by (simp only [go_sem]); first | done | rfl) ?_ ?_ <;> (simp only [go_sem]))) | (first | refine wd_fn (by (simp only [go_sem]); first | done | rfl) (hf) ?_ | refine wm_fn (by (simp only [go_sem]); first | done | rfl) (hf) (by (simp only [go_sem]); first | done | rfl) (by (simp only [go_sem]); first | done | rfl) ?_ | refine wt_fn (by (simp only [go_sem]); first | done | rfl) (hf) (by (simp only [go_sem]); first | done | rfl) (by (simp only [go_sem]); first | done | rfl) ?_); (simp only [go_sem]) | ((first | refine wd_mix 6 [] follows (by decide +kernel) (by (simp only [go_sem]); first | done | rfl) ?_ | refine wd_mix 5 [] follows (by decide +kernel) (by (simp only [go_sem]); first | done | rfl) ?_ | refine wd_mix 4 [] follows (by decide +kernel) (by (simp only [go_sem]); first | done | rfl) ?_ | refine wd_mix 3 [] follows (by decide +kernel) (by (simp only [go_sem]); first | done | rfl) ?_ | refine wd_mix 2 [] follows (by decide +kernel) (by (simp only [go_sem]); first | done | rfl) ?_ | refine wd_mix 1 [] follows (by decide +kernel) (by (simp only [go_sem]); first | done | rfl) ?_ | refine wd_mix 0 [] follows (by decide +kernel) (by (simp only [go_sem]); first | done | rfl) ?_ | fail); (simp only [go_sem])))
    all_goals (refine hR _ (ret_at [] (by (simp only [go_sem]); first | done | rfl) (by (simp only [go_sem]); first | done | rfl) ⟨?_, rfl⟩))
    all_goals simp_all
theorem co_cases (k : Int) : k = 1 ∨ k = 2 ∨ k = 3 ∨ k = 4 ∨ k = 5 ∨ k = 6 ∨ (coN k = -1 ∧ ∀ t l ks, (Co.mk k t l ks).okN = false) := by
  by_cases h : 1 ≤ k ∧ k ≤ 6
  · omega
  · right; right; right; right; right; right
    constructor
    · unfold coN; repeat' (first | rw [if_neg (by omega)])
    · intro t l ks
      unfold Co.okN
      simp only []
      repeat' (first | rw [if_neg (by omega)])
theorem okN_len {k t l : Int} {ks : List Co} (h : coN k ≠ (ks.length : Int)) : (Co.mk k t l ks).okN = false := by
  rcases co_cases k with rfl | rfl | rfl | rfl | rfl | rfl | ⟨_, h⟩
  · simp only [coN_1] at h; simp [Co.okN]; intro h'; subst h'; simp at h
  · simp only [coN_2] at h; simp [Co.okN]; intro h'; omega
  · simp only [coN_3] at h; simp [Co.okN]; intro h'; omega
  · simp only [coN_4] at h; simp only [Co.okN]; match ks, h with | [], _ => rfl | [_], h => simp at h | _ :: _ :: _, _ => rfl
  · simp only [coN_5] at h; simp only [Co.okN]; match ks, h with | [], _ => rfl | [_], h => simp at h | _ :: _ :: _, _ => rfl
  · simp only [coN_6] at h; simp [Co.okN]; intro h'; subst h'; simp at h
  · exact h t l ks
theorem coScan (m : Nat) (hm : m ≤ 9) : ∀ c : Co, AFn Try.prog 65 [.agg (coC c), .one (.sc (.int .i64 (10 - (m : Int))))] (.one (.sc (.bool (c.shape m)))) := by
  induction m with
  | zero =>
    intro c
    refine fn_in ?_; refine acl_in Try.func65 rfl isfn_65 (Nat.le_of_ble_eq_true rfl) (fun R hR => ?_); rw [Try.results65] at hR; refine wg_run ?_; (simp only [Try.f65, go_sem])
    repeat' (first | (first | ((first | refine wd_split _ (fun hb => ?_) (fun hb => ?_) | refine wd_nwant _ (fun hb => ?_) (fun hb => ?_) | refine wm_nwant _ (fun hb => ?_) (fun hb => ?_) | refine wd_want _ (fun hb => ?_) (fun hb => ?_) | refine wm_want _ (fun hb => ?_) (fun hb => ?_) | refine wt_nwant _ (fun hb => ?_) (fun hb => ?_) | refine wt_want _ (fun hb => ?_) (fun hb => ?_)) <;> (simp only [go_sem, hb])) | (refine wm_done ?_; (simp only [go_sem])) | (refine wt_done ?_; (simp only [go_sem])) | (refine wg_run ?_; (simp only [go_sem])) | (refine wt_fork (by (simp only [go_sem]); first | done | rfl) ?_ ?_ <;> (simp only [go_sem]))) | ((first | refine wd_mix 6 [] follows (by decide +kernel) (by (simp only [go_sem]); first | done | rfl) ?_ | refine wd_mix 5 [] follows (by decide +kernel) (by (simp only [go_sem]); first | done | rfl) ?_ | refine wd_mix 4 [] follows (by decide +kernel) (by (simp only [go_sem]); first | done | rfl) ?_ | refine wd_mix 3 [] follows (by decide +kernel) (by (simp only [go_sem]); first | done | rfl) ?_ | refine wd_mix 2 [] follows (by decide +kernel) (by (simp only [go_sem]); first | done | rfl) ?_ | refine wd_mix 1 [] follows (by decide +kernel) (by (simp only [go_sem]); first | done | rfl) ?_ | refine wd_mix 0 [] follows (by decide +kernel) (by (simp only [go_sem]); first | done | rfl) ?_ | fail); (simp only [go_sem])))
    all_goals (refine hR _ (ret_at [] (by (simp only [go_sem]); first | done | rfl) (by (simp only [go_sem]); first | done | rfl) ⟨?_, rfl⟩))
    all_goals rfl
  | succ m ih =>
    intro c
    have hd : decide (10 - ((m + 1 : Nat) : Int) > 9) = false := by simp; omega
    have hw : IntKind.i64.wrap (10 - ((m + 1 : Nat) : Int) + 1) = 10 - (m : Int) := by rw [IntWalk.i64_in _ (by omega)]; omega
    have hcc : ∀ l : List Co, l.length < 4611686018427387904 → ACl Try.prog 101 [.one (.sl (coR l)), .one (.fn 102 [.ptr 1 0 0 0])] [⟨1, 3, .mut, [[.sc (.int .i64 (10 - ((m + 1 : Nat) : Int)))]]⟩] (fun r H' => r = .one (.sc (.bool (l.any (fun x => !x.shape m)))) ∧ H' = [⟨1, 3, .mut, [[.sc (.int .i64 (10 - ((m + 1 : Nat) : Int)))]]⟩]) := by
      intro l hl
      refine coContainsFunc1 _ _ (fun x => !x.shape m) _ (by omega) ?_
      intro k hk
      refine acl_in Try.func102 rfl isfn_102 (Nat.le_of_ble_eq_true rfl) (fun R hR => ?_); rw [Try.results102] at hR; refine wg_run ?_; (simp only [Try.f102, go_sem])
      (simp only [go_sem, hw])
      (first | refine wd_fn (by (simp only [go_sem]); first | done | rfl) (ih (by omega) _) ?_ | refine wm_fn (by (simp only [go_sem]); first | done | rfl) (ih (by omega) _) (by (simp only [go_sem]); first | done | rfl) (by (simp only [go_sem]); first | done | rfl) ?_ | refine wt_fn (by (simp only [go_sem]); first | done | rfl) (ih (by omega) _) (by (simp only [go_sem]); first | done | rfl) (by (simp only [go_sem]); first | done | rfl) ?_); (simp only [go_sem])
      (refine hR _ (ret_at [] (by (simp only [go_sem]); first | done | rfl) (by (simp only [go_sem]); first | done | rfl) ⟨?_, ?_⟩))
      · rfl
      · rfl
    clear ih
    obtain ⟨k, t, l, ks⟩ := c
    have hco := coOperands k
    by_cases hlen : coN k = (ks.length : Int)
    · rcases co_cases k with rfl | rfl | rfl | rfl | rfl | rfl | ⟨h, _⟩
      · obtain rfl : ks = [] := List.eq_nil_of_length_eq_zero (by rw [coN_1] at hlen; omega)
        have hc := hcc [] (by decide)
        refine fn_in ?_; refine acl_in Try.func65 rfl isfn_65 (Nat.le_of_ble_eq_true rfl) (fun R hR => ?_); rw [Try.results65] at hR; refine wg_run ?_; (simp only [Try.f65, go_sem])
        repeat' (first | (first | (simp only [go_sem, hd]) | ((first | refine wd_split _ (fun hb => ?_) (fun hb => ?_) | refine wd_nwant _ (fun hb => ?_) (fun hb => ?_) | refine wm_nwant _ (fun hb => ?_) (fun hb => ?_) | refine wd_want _ (fun hb => ?_) (fun hb => ?_) | refine wm_want _ (fun hb => ?_) (fun hb => ?_) | refine wt_nwant _ (fun hb => ?_) (fun hb => ?_) | refine wt_want _ (fun hb => ?_) (fun hb => ?_)) <;> (simp only [go_sem, hb, hd])) | (refine wm_done ?_; (simp only [go_sem, hd])) | (refine wt_done ?_; (simp only [go_sem, hd])) | (refine wg_run ?_; (simp only [go_sem, hd])) | (refine wt_fork (by (simp only [go_sem]); first | done | rfl) ?_ ?_ <;> (simp only [go_sem, hd]))) | ((first | refine wd_mix 6 [] follows (by decide +kernel) (by (simp only [go_sem]); first | done | rfl) ?_ | refine wd_mix 5 [] follows (by decide +kernel) (by (simp only [go_sem]); first | done | rfl) ?_ | refine wd_mix 4 [] follows (by decide +kernel) (by (simp only [go_sem]); first | done | rfl) ?_ | refine wd_mix 3 [] follows (by decide +kernel) (by (simp only [go_sem]); first | done | rfl) ?_ | refine wd_mix 2 [] follows (by decide +kernel) (by (simp only [go_sem]); first | done | rfl) ?_ | refine wd_mix 1 [] follows (by decide +kernel) (by (simp only [go_sem]); first | done | rfl) ?_ | refine wd_mix 0 [] follows (by decide +kernel) (by (simp only [go_sem]); first | done | rfl) ?_ | fail); (simp only [go_sem, hd])) | (first | refine wd_fn (by (simp only [go_sem]); first | done | rfl) (hco) ?_ | refine wm_fn (by (simp only [go_sem]); first | done | rfl) (hco) (by (simp only [go_sem]); first | done | rfl) (by (simp only [go_sem]); first | done | rfl) ?_ | refine wt_fn (by (simp only [go_sem]); first | done | rfl) (hco) (by (simp only [go_sem]); first | done | rfl) (by (simp only [go_sem]); first | done | rfl) ?_); (simp only [go_sem]) | (first | refine wd_fn (by (simp only [go_sem]); first | done | rfl) (within _ _ _) ?_ | refine wm_fn (by (simp only [go_sem]); first | done | rfl) (within _ _ _) (by (simp only [go_sem]); first | done | rfl) (by (simp only [go_sem]); first | done | rfl) ?_ | refine wt_fn (by (simp only [go_sem]); first | done | rfl) (within _ _ _) (by (simp only [go_sem]); first | done | rfl) (by (simp only [go_sem]); first | done | rfl) ?_); (simp only [go_sem]) | (first | refine wd_fn (by (simp only [go_sem]); first | done | rfl) (isLabel _) ?_ | refine wm_fn (by (simp only [go_sem]); first | done | rfl) (isLabel _) (by (simp only [go_sem]); first | done | rfl) (by (simp only [go_sem]); first | done | rfl) ?_ | refine wt_fn (by (simp only [go_sem]); first | done | rfl) (isLabel _) (by (simp only [go_sem]); first | done | rfl) (by (simp only [go_sem]); first | done | rfl) ?_); (simp only [go_sem]) | (first | refine wd_cl [1] (by (simp only [go_sem]); first | done | rfl) (hc) ?_ | refine wm_cl [1] (by (simp only [go_sem]); first | done | rfl) (hc) (by (simp only [go_sem]); first | done | rfl) (by (simp only [go_sem]); first | done | rfl) ?_ | refine wt_cl [1] (by (simp only [go_sem]); first | done | rfl) (hc) (by (simp only [go_sem]); first | done | rfl) (by (simp only [go_sem]); first | done | rfl) ?_); rintro _ _ ⟨rfl, rfl⟩; (simp only [go_sem]))
        all_goals (refine hR _ (ret_at [] (by (simp only [go_sem]); first | done | rfl) (by (simp only [go_sem]); first | done | rfl) ⟨?_, rfl⟩))
        all_goals clear hR hco hc hcc hd hw
        all_goals simp_all [Co.shape, Co.okN, Co.kids]
        all_goals (try grind)
      · obtain ⟨a, b, rfl⟩ : ∃ a b, ks = [a, b] := by
          simp only [coN_2] at hlen
          match ks, hlen with
          | [a, b], _ => exact ⟨a, b, rfl⟩
          | [], h => simp at h
          | [_], h => simp at h
          | _ :: _ :: _ :: _, h => simp at h; omega
        have hc := hcc [a, b] (by simp)
        refine fn_in ?_; refine acl_in Try.func65 rfl isfn_65 (Nat.le_of_ble_eq_true rfl) (fun R hR => ?_); rw [Try.results65] at hR; refine wg_run ?_; (simp only [Try.f65, go_sem])
        repeat' (first | (first | (simp only [go_sem, hd]) | ((first | refine wd_split _ (fun hb => ?_) (fun hb => ?_) | refine wd_nwant _ (fun hb => ?_) (fun hb => ?_) | refine wm_nwant _ (fun hb => ?_) (fun hb => ?_) | refine wd_want _ (fun hb => ?_) (fun hb => ?_) | refine wm_want _ (fun hb => ?_) (fun hb => ?_) | refine wt_nwant _ (fun hb => ?_) (fun hb => ?_) | refine wt_want _ (fun hb => ?_) (fun hb => ?_)) <;> (simp only [go_sem, hb, hd])) | (refine wm_done ?_; (simp only [go_sem, hd])) | (refine wt_done ?_; (simp only [go_sem, hd])) | (refine wg_run ?_; (simp only [go_sem, hd])) | (refine wt_fork (by (simp only [go_sem]); first | done | rfl) ?_ ?_ <;> (simp only [go_sem, hd]))) | ((first | refine wd_mix 6 [] follows (by decide +kernel) (by (simp only [go_sem]); first | done | rfl) ?_ | refine wd_mix 5 [] follows (by decide +kernel) (by (simp only [go_sem]); first | done | rfl) ?_ | refine wd_mix 4 [] follows (by decide +kernel) (by (simp only [go_sem]); first | done | rfl) ?_ | refine wd_mix 3 [] follows (by decide +kernel) (by (simp only [go_sem]); first | done | rfl) ?_ | refine wd_mix 2 [] follows (by decide +kernel) (by (simp only [go_sem]); first | done | rfl) ?_ | refine wd_mix 1 [] follows (by decide +kernel) (by (simp only [go_sem]); first | done | rfl) ?_ | refine wd_mix 0 [] follows (by decide +kernel) (by (simp only [go_sem]); first | done | rfl) ?_ | fail); (simp only [go_sem, hd])) | (first | refine wd_fn (by (simp only [go_sem]); first | done | rfl) (hco) ?_ | refine wm_fn (by (simp only [go_sem]); first | done | rfl) (hco) (by (simp only [go_sem]); first | done | rfl) (by (simp only [go_sem]); first | done | rfl) ?_ | refine wt_fn (by (simp only [go_sem]); first | done | rfl) (hco) (by (simp only [go_sem]); first | done | rfl) (by (simp only [go_sem]); first | done | rfl) ?_); (simp only [go_sem]) | (first | refine wd_fn (by (simp only [go_sem]); first | done | rfl) (within _ _ _) ?_ | refine wm_fn (by (simp only [go_sem]); first | done | rfl) (within _ _ _) (by (simp only [go_sem]); first | done | rfl) (by (simp only [go_sem]); first | done | rfl) ?_ | refine wt_fn (by (simp only [go_sem]); first | done | rfl) (within _ _ _) (by (simp only [go_sem]); first | done | rfl) (by (simp only [go_sem]); first | done | rfl) ?_); (simp only [go_sem]) | (first | refine wd_fn (by (simp only [go_sem]); first | done | rfl) (isLabel _) ?_ | refine wm_fn (by (simp only [go_sem]); first | done | rfl) (isLabel _) (by (simp only [go_sem]); first | done | rfl) (by (simp only [go_sem]); first | done | rfl) ?_ | refine wt_fn (by (simp only [go_sem]); first | done | rfl) (isLabel _) (by (simp only [go_sem]); first | done | rfl) (by (simp only [go_sem]); first | done | rfl) ?_); (simp only [go_sem]) | (first | refine wd_cl [1] (by (simp only [go_sem]); first | done | rfl) (hc) ?_ | refine wm_cl [1] (by (simp only [go_sem]); first | done | rfl) (hc) (by (simp only [go_sem]); first | done | rfl) (by (simp only [go_sem]); first | done | rfl) ?_ | refine wt_cl [1] (by (simp only [go_sem]); first | done | rfl) (hc) (by (simp only [go_sem]); first | done | rfl) (by (simp only [go_sem]); first | done | rfl) ?_); rintro _ _ ⟨rfl, rfl⟩; (simp only [go_sem]))
        all_goals (refine hR _ (ret_at [] (by (simp only [go_sem]); first | done | rfl) (by (simp only [go_sem]); first | done | rfl) ⟨?_, rfl⟩))
        all_goals clear hR hco hc hcc hd hw
        all_goals simp_all [Co.shape, Co.okN, Co.kids]
        all_goals (try grind)
      · obtain ⟨a, b, rfl⟩ : ∃ a b, ks = [a, b] := by
          simp only [coN_3] at hlen
          match ks, hlen with
          | [a, b], _ => exact ⟨a, b, rfl⟩
          | [], h => simp at h
          | [_], h => simp at h
          | _ :: _ :: _ :: _, h => simp at h; omega
        have hc := hcc [a, b] (by simp)
        refine fn_in ?_; refine acl_in Try.func65 rfl isfn_65 (Nat.le_of_ble_eq_true rfl) (fun R hR => ?_); rw [Try.results65] at hR; refine wg_run ?_; (simp only [Try.f65, go_sem])
        repeat' (first | (first | (simp only [go_sem, hd]) | ((first | refine wd_split _ (fun hb => ?_) (fun hb => ?_) | refine wd_nwant _ (fun hb => ?_) (fun hb => ?_) | refine wm_nwant _ (fun hb => ?_) (fun hb => ?_) | refine wd_want _ (fun hb => ?_) (fun hb => ?_) | refine wm_want _ (fun hb => ?_) (fun hb => ?_) | refine wt_nwant _ (fun hb => ?_) (fun hb => ?_) | refine wt_want _ (fun hb => ?_) (fun hb => ?_)) <;> (simp only [go_sem, hb, hd])) | (refine wm_done ?_; (simp only [go_sem, hd])) | (refine wt_done ?_; (simp only [go_sem, hd])) | (refine wg_run ?_; (simp only [go_sem, hd])) | (refine wt_fork (by (simp only [go_sem]); first | done | rfl) ?_ ?_ <;> (simp only [go_sem, hd]))) | ((first | refine wd_mix 6 [] follows (by decide +kernel) (by (simp only [go_sem]); first | done | rfl) ?_ | refine wd_mix 5 [] follows (by decide +kernel) (by (simp only [go_sem]); first | done | rfl) ?_ | refine wd_mix 4 [] follows (by decide +kernel) (by (simp only [go_sem]); first | done | rfl) ?_ | refine wd_mix 3 [] follows (by decide +kernel) (by (simp only [go_sem]); first | done | rfl) ?_ | refine wd_mix 2 [] follows (by decide +kernel) (by (simp only [go_sem]); first | done | rfl) ?_ | refine wd_mix 1 [] follows (by decide +kernel) (by (simp only [go_sem]); first | done | rfl) ?_ | refine wd_mix 0 [] follows (by decide +kernel) (by (simp only [go_sem]); first | done | rfl) ?_ | fail); (simp only [go_sem, hd])) | (first | refine wd_fn (by (simp only [go_sem]); first | done | rfl) (hco) ?_ | refine wm_fn (by (simp only [go_sem]); first | done | rfl) (hco) (by (simp only [go_sem]); first | done | rfl) (by (simp only [go_sem]); first | done | rfl) ?_ | refine wt_fn (by (simp only [go_sem]); first | done | rfl) (hco) (by (simp only [go_sem]); first | done | rfl) (by (simp only [go_sem]); first | done | rfl) ?_); (simp only [go_sem]) | (first | refine wd_fn (by (simp only [go_sem]); first | done | rfl) (within _ _ _) ?_ | refine wm_fn (by (simp only [go_sem]); first | done | rfl) (within _ _ _) (by (simp only [go_sem]); first | done | rfl) (by (simp only [go_sem]); first | done | rfl) ?_ | refine wt_fn (by (simp only [go_sem]); first | done | rfl) (within _ _ _) (by (simp only [go_sem]); first | done | rfl) (by (simp only [go_sem]); first | done | rfl) ?_); (simp only [go_sem]) | (first | refine wd_fn (by (simp only [go_sem]); first | done | rfl) (isLabel _) ?_ | refine wm_fn (by (simp only [go_sem]); first | done | rfl) (isLabel _) (by (simp only [go_sem]); first | done | rfl) (by (simp only [go_sem]); first | done | rfl) ?_ | refine wt_fn (by (simp only [go_sem]); first | done | rfl) (isLabel _) (by (simp only [go_sem]); first | done | rfl) (by (simp only [go_sem]); first | done | rfl) ?_); (simp only [go_sem]) | (first | refine wd_cl [1] (by (simp only [go_sem]); first | done | rfl) (hc) ?_ | refine wm_cl [1] (by (simp only [go_sem]); first | done | rfl) (hc) (by (simp only [go_sem]); first | done | rfl) (by (simp only [go_sem]); first | done | rfl) ?_ | refine wt_cl [1] (by (simp only [go_sem]); first | done | rfl) (hc) (by (simp only [go_sem]); first | done | rfl) (by (simp only [go_sem]); first | done | rfl) ?_); rintro _ _ ⟨rfl, rfl⟩; (simp only [go_sem]))
        all_goals (refine hR _ (ret_at [] (by (simp only [go_sem]); first | done | rfl) (by (simp only [go_sem]); first | done | rfl) ⟨?_, rfl⟩))
        all_goals clear hR hco hc hcc hd hw
        all_goals simp_all [Co.shape, Co.okN, Co.kids]
        all_goals (try grind)
      · obtain ⟨a, rfl⟩ : ∃ a, ks = [a] := by
          simp only [coN_4] at hlen
          match ks, hlen with
          | [a], _ => exact ⟨a, rfl⟩
          | [], h => simp at h
          | _ :: _ :: _, h => simp at h; omega
        have hc := hcc [a] (by simp)
        refine fn_in ?_; refine acl_in Try.func65 rfl isfn_65 (Nat.le_of_ble_eq_true rfl) (fun R hR => ?_); rw [Try.results65] at hR; refine wg_run ?_; (simp only [Try.f65, go_sem])
        repeat' (first | (first | (simp only [go_sem, hd]) | ((first | refine wd_split _ (fun hb => ?_) (fun hb => ?_) | refine wd_nwant _ (fun hb => ?_) (fun hb => ?_) | refine wm_nwant _ (fun hb => ?_) (fun hb => ?_) | refine wd_want _ (fun hb => ?_) (fun hb => ?_) | refine wm_want _ (fun hb => ?_) (fun hb => ?_) | refine wt_nwant _ (fun hb => ?_) (fun hb => ?_) | refine wt_want _ (fun hb => ?_) (fun hb => ?_)) <;> (simp only [go_sem, hb, hd])) | (refine wm_done ?_; (simp only [go_sem, hd])) | (refine wt_done ?_; (simp only [go_sem, hd])) | (refine wg_run ?_; (simp only [go_sem, hd])) | (refine wt_fork (by (simp only [go_sem]); first | done | rfl) ?_ ?_ <;> (simp only [go_sem, hd]))) | ((first | refine wd_mix 6 [] follows (by decide +kernel) (by (simp only [go_sem]); first | done | rfl) ?_ | refine wd_mix 5 [] follows (by decide +kernel) (by (simp only [go_sem]); first | done | rfl) ?_ | refine wd_mix 4 [] follows (by decide +kernel) (by (simp only [go_sem]); first | done | rfl) ?_ | refine wd_mix 3 [] follows (by decide +kernel) (by (simp only [go_sem]); first | done | rfl) ?_ | refine wd_mix 2 [] follows (by decide +kernel) (by (simp only [go_sem]); first | done | rfl) ?_ | refine wd_mix 1 [] follows (by decide +kernel) (by (simp only [go_sem]); first | done | rfl) ?_ | refine wd_mix 0 [] follows (by decide +kernel) (by (simp only [go_sem]); first | done | rfl) ?_ | fail); (simp only [go_sem, hd])) | (first | refine wd_fn (by (simp only [go_sem]); first | done | rfl) (hco) ?_ | refine wm_fn (by (simp only [go_sem]); first | done | rfl) (hco) (by (simp only [go_sem]); first | done | rfl) (by (simp only [go_sem]); first | done | rfl) ?_ | refine wt_fn (by (simp only [go_sem]); first | done | rfl) (hco) (by (simp only [go_sem]); first | done | rfl) (by (simp only [go_sem]); first | done | rfl) ?_); (simp only [go_sem]) | (first | refine wd_fn (by (simp only [go_sem]); first | done | rfl) (within _ _ _) ?_ | refine wm_fn (by (simp only [go_sem]); first | done | rfl) (within _ _ _) (by (simp only [go_sem]); first | done | rfl) (by (simp only [go_sem]); first | done | rfl) ?_ | refine wt_fn (by (simp only [go_sem]); first | done | rfl) (within _ _ _) (by (simp only [go_sem]); first | done | rfl) (by (simp only [go_sem]); first | done | rfl) ?_); (simp only [go_sem]) | (first | refine wd_fn (by (simp only [go_sem]); first | done | rfl) (isLabel _) ?_ | refine wm_fn (by (simp only [go_sem]); first | done | rfl) (isLabel _) (by (simp only [go_sem]); first | done | rfl) (by (simp only [go_sem]); first | done | rfl) ?_ | refine wt_fn (by (simp only [go_sem]); first | done | rfl) (isLabel _) (by (simp only [go_sem]); first | done | rfl) (by (simp only [go_sem]); first | done | rfl) ?_); (simp only [go_sem]) | (first | refine wd_fn (by (simp only [go_sem]); first | done | rfl) (coPlain _) ?_ | refine wm_fn (by (simp only [go_sem]); first | done | rfl) (coPlain _) (by (simp only [go_sem]); first | done | rfl) (by (simp only [go_sem]); first | done | rfl) ?_ | refine wt_fn (by (simp only [go_sem]); first | done | rfl) (coPlain _) (by (simp only [go_sem]); first | done | rfl) (by (simp only [go_sem]); first | done | rfl) ?_); (simp only [go_sem]) | (first | refine wd_fn (by (simp only [go_sem]); first | done | rfl) (coAny _) ?_ | refine wm_fn (by (simp only [go_sem]); first | done | rfl) (coAny _) (by (simp only [go_sem]); first | done | rfl) (by (simp only [go_sem]); first | done | rfl) ?_ | refine wt_fn (by (simp only [go_sem]); first | done | rfl) (coAny _) (by (simp only [go_sem]); first | done | rfl) (by (simp only [go_sem]); first | done | rfl) ?_); (simp only [go_sem]) | (first | refine wd_cl [1] (by (simp only [go_sem]); first | done | rfl) (hc) ?_ | refine wm_cl [1] (by (simp only [go_sem]); first | done | rfl) (hc) (by (simp only [go_sem]); first | done | rfl) (by (simp only [go_sem]); first | done | rfl) ?_ | refine wt_cl [1] (by (simp only [go_sem]); first | done | rfl) (hc) (by (simp only [go_sem]); first | done | rfl) (by (simp only [go_sem]); first | done | rfl) ?_); rintro _ _ ⟨rfl, rfl⟩; (simp only [go_sem]))
        all_goals (refine hR _ (ret_at [] (by (simp only [go_sem]); first | done | rfl) (by (simp only [go_sem]); first | done | rfl) ⟨?_, rfl⟩))
        all_goals clear hR hco hc hcc hd hw
        all_goals simp_all [Co.shape, Co.okN, Co.kids]
        all_goals (try grind)
      · obtain ⟨a, rfl⟩ : ∃ a, ks = [a] := by
          simp only [coN_5] at hlen
          match ks, hlen with
          | [a], _ => exact ⟨a, rfl⟩
          | [], h => simp at h
          | _ :: _ :: _, h => simp at h; omega
        have hc := hcc [a] (by simp)
        refine fn_in ?_; refine acl_in Try.func65 rfl isfn_65 (Nat.le_of_ble_eq_true rfl) (fun R hR => ?_); rw [Try.results65] at hR; refine wg_run ?_; (simp only [Try.f65, go_sem])
        repeat' (first | (first | (simp only [go_sem, hd]) | ((first | refine wd_split _ (fun hb => ?_) (fun hb => ?_) | refine wd_nwant _ (fun hb => ?_) (fun hb => ?_) | refine wm_nwant _ (fun hb => ?_) (fun hb => ?_) | refine wd_want _ (fun hb => ?_) (fun hb => ?_) | refine wm_want _ (fun hb => ?_) (fun hb => ?_) | refine wt_nwant _ (fun hb => ?_) (fun hb => ?_) | refine wt_want _ (fun hb => ?_) (fun hb => ?_)) <;> (simp only [go_sem, hb, hd])) | (refine wm_done ?_; (simp only [go_sem, hd])) | (refine wt_done ?_; (simp only [go_sem, hd])) | (refine wg_run ?_; (simp only [go_sem, hd])) | (refine wt_fork (by (simp only [go_sem]); first | done | rfl) ?_ ?_ <;> (simp only [go_sem, hd]))) | ((first | refine wd_mix 6 [] follows (by decide +kernel) (by (simp only [go_sem]); first | done | rfl) ?_ | refine wd_mix 5 [] follows (by decide +kernel) (by (simp only [go_sem]); first | done | rfl) ?_ | refine wd_mix 4 [] follows (by decide +kernel) (by (simp only [go_sem]); first | done | rfl) ?_ | refine wd_mix 3 [] follows (by decide +kernel) (by (simp only [go_sem]); first | done | rfl) ?_ | refine wd_mix 2 [] follows (by decide +kernel) (by (simp only [go_sem]); first | done | rfl) ?_ | refine wd_mix 1 [] follows (by decide +kernel) (by (simp only [go_sem]); first | done | rfl) ?_ | refine wd_mix 0 [] follows (by decide +kernel) (by (simp only [go_sem]); first | done | rfl) ?_ | fail); (simp only [go_sem, hd])) | (first | refine wd_fn (by (simp only [go_sem]); first | done | rfl) (hco) ?_ | refine wm_fn (by (simp only [go_sem]); first | done | rfl) (hco) (by (simp only [go_sem]); first | done | rfl) (by (simp only [go_sem]); first | done | rfl) ?_ | refine wt_fn (by (simp only [go_sem]); first | done | rfl) (hco) (by (simp only [go_sem]); first | done | rfl) (by (simp only [go_sem]); first | done | rfl) ?_); (simp only [go_sem]) | (first | refine wd_fn (by (simp only [go_sem]); first | done | rfl) (within _ _ _) ?_ | refine wm_fn (by (simp only [go_sem]); first | done | rfl) (within _ _ _) (by (simp only [go_sem]); first | done | rfl) (by (simp only [go_sem]); first | done | rfl) ?_ | refine wt_fn (by (simp only [go_sem]); first | done | rfl) (within _ _ _) (by (simp only [go_sem]); first | done | rfl) (by (simp only [go_sem]); first | done | rfl) ?_); (simp only [go_sem]) | (first | refine wd_fn (by (simp only [go_sem]); first | done | rfl) (isLabel _) ?_ | refine wm_fn (by (simp only [go_sem]); first | done | rfl) (isLabel _) (by (simp only [go_sem]); first | done | rfl) (by (simp only [go_sem]); first | done | rfl) ?_ | refine wt_fn (by (simp only [go_sem]); first | done | rfl) (isLabel _) (by (simp only [go_sem]); first | done | rfl) (by (simp only [go_sem]); first | done | rfl) ?_); (simp only [go_sem]) | (first | refine wd_fn (by (simp only [go_sem]); first | done | rfl) (coPlain _) ?_ | refine wm_fn (by (simp only [go_sem]); first | done | rfl) (coPlain _) (by (simp only [go_sem]); first | done | rfl) (by (simp only [go_sem]); first | done | rfl) ?_ | refine wt_fn (by (simp only [go_sem]); first | done | rfl) (coPlain _) (by (simp only [go_sem]); first | done | rfl) (by (simp only [go_sem]); first | done | rfl) ?_); (simp only [go_sem]) | (first | refine wd_fn (by (simp only [go_sem]); first | done | rfl) (coAny _) ?_ | refine wm_fn (by (simp only [go_sem]); first | done | rfl) (coAny _) (by (simp only [go_sem]); first | done | rfl) (by (simp only [go_sem]); first | done | rfl) ?_ | refine wt_fn (by (simp only [go_sem]); first | done | rfl) (coAny _) (by (simp only [go_sem]); first | done | rfl) (by (simp only [go_sem]); first | done | rfl) ?_); (simp only [go_sem]) | (first | refine wd_cl [1] (by (simp only [go_sem]); first | done | rfl) (hc) ?_ | refine wm_cl [1] (by (simp only [go_sem]); first | done | rfl) (hc) (by (simp only [go_sem]); first | done | rfl) (by (simp only [go_sem]); first | done | rfl) ?_ | refine wt_cl [1] (by (simp only [go_sem]); first | done | rfl) (hc) (by (simp only [go_sem]); first | done | rfl) (by (simp only [go_sem]); first | done | rfl) ?_); rintro _ _ ⟨rfl, rfl⟩; (simp only [go_sem]))
        all_goals (refine hR _ (ret_at [] (by (simp only [go_sem]); first | done | rfl) (by (simp only [go_sem]); first | done | rfl) ⟨?_, rfl⟩))
        all_goals clear hR hco hc hcc hd hw
        all_goals simp_all [Co.shape, Co.okN, Co.kids]
        all_goals (try grind)
      · obtain rfl : ks = [] := List.eq_nil_of_length_eq_zero (by rw [coN_6] at hlen; omega)
        have hc := hcc [] (by decide)
        refine fn_in ?_; refine acl_in Try.func65 rfl isfn_65 (Nat.le_of_ble_eq_true rfl) (fun R hR => ?_); rw [Try.results65] at hR; refine wg_run ?_; (simp only [Try.f65, go_sem])
        repeat' (first | (first | (simp only [go_sem, hd]) | ((first | refine wd_split _ (fun hb => ?_) (fun hb => ?_) | refine wd_nwant _ (fun hb => ?_) (fun hb => ?_) | refine wm_nwant _ (fun hb => ?_) (fun hb => ?_) | refine wd_want _ (fun hb => ?_) (fun hb => ?_) | refine wm_want _ (fun hb => ?_) (fun hb => ?_) | refine wt_nwant _ (fun hb => ?_) (fun hb => ?_) | refine wt_want _ (fun hb => ?_) (fun hb => ?_)) <;> (simp only [go_sem, hb, hd])) | (refine wm_done ?_; (simp only [go_sem, hd])) | (refine wt_done ?_; (simp only [go_sem, hd])) | (refine wg_run ?_; (simp only [go_sem, hd])) | (refine wt_fork (by (simp only [go_sem]); first | done | rfl) ?_ ?_ <;> (simp only [go_sem, hd]))) | ((first | refine wd_mix 6 [] follows (by decide +kernel) (by (simp only [go_sem]); first | done | rfl) ?_ | refine wd_mix 5 [] follows (by decide +kernel) (by (simp only [go_sem]); first | done | rfl) ?_ | refine wd_mix 4 [] follows (by decide +kernel) (by (simp only [go_sem]); first | done | rfl) ?_ | refine wd_mix 3 [] follows (by decide +kernel) (by (simp only [go_sem]); first | done | rfl) ?_ | refine wd_mix 2 [] follows (by decide +kernel) (by (simp only [go_sem]); first | done | rfl) ?_ | refine wd_mix 1 [] follows (by decide +kernel) (by (simp only [go_sem]); first | done | rfl) ?_ | refine wd_mix 0 [] follows (by decide +kernel) (by (simp only [go_sem]); first | done | rfl) ?_ | fail); (simp only [go_sem, hd])) | (first | refine wd_fn (by (simp only [go_sem]); first | done | rfl) (hco) ?_ | refine wm_fn (by (simp only [go_sem]); first | done | rfl) (hco) (by (simp only [go_sem]); first | done | rfl) (by (simp only [go_sem]); first | done | rfl) ?_ | refine wt_fn (by (simp only [go_sem]); first | done | rfl) (hco) (by (simp only [go_sem]); first | done | rfl) (by (simp only [go_sem]); first | done | rfl) ?_); (simp only [go_sem]) | (first | refine wd_fn (by (simp only [go_sem]); first | done | rfl) (within _ _ _) ?_ | refine wm_fn (by (simp only [go_sem]); first | done | rfl) (within _ _ _) (by (simp only [go_sem]); first | done | rfl) (by (simp only [go_sem]); first | done | rfl) ?_ | refine wt_fn (by (simp only [go_sem]); first | done | rfl) (within _ _ _) (by (simp only [go_sem]); first | done | rfl) (by (simp only [go_sem]); first | done | rfl) ?_); (simp only [go_sem]) | (first | refine wd_fn (by (simp only [go_sem]); first | done | rfl) (isLabel _) ?_ | refine wm_fn (by (simp only [go_sem]); first | done | rfl) (isLabel _) (by (simp only [go_sem]); first | done | rfl) (by (simp only [go_sem]); first | done | rfl) ?_ | refine wt_fn (by (simp only [go_sem]); first | done | rfl) (isLabel _) (by (simp only [go_sem]); first | done | rfl) (by (simp only [go_sem]); first | done | rfl) ?_); (simp only [go_sem]) | (first | refine wd_cl [1] (by (simp only [go_sem]); first | done | rfl) (hc) ?_ | refine wm_cl [1] (by (simp only [go_sem]); first | done | rfl) (hc) (by (simp only [go_sem]); first | done | rfl) (by (simp only [go_sem]); first | done | rfl) ?_ | refine wt_cl [1] (by (simp only [go_sem]); first | done | rfl) (hc) (by (simp only [go_sem]); first | done | rfl) (by (simp only [go_sem]); first | done | rfl) ?_); rintro _ _ ⟨rfl, rfl⟩; (simp only [go_sem]))
        all_goals (refine hR _ (ret_at [] (by (simp only [go_sem]); first | done | rfl) (by (simp only [go_sem]); first | done | rfl) ⟨?_, rfl⟩))
        all_goals clear hR hco hc hcc hd hw
        all_goals simp_all [Co.shape, Co.okN, Co.kids]
        all_goals (try grind)
      · rw [h] at hlen; omega
    · have hn : (coN k != (ks.length : Int)) = true := by simp [hlen]
      have hs : (Co.mk k t l ks).shape (m + 1) = false := by simp only [Co.shape, okN_len hlen, Bool.false_and]
      rw [hs]
      refine fn_in ?_; refine acl_in Try.func65 rfl isfn_65 (Nat.le_of_ble_eq_true rfl) (fun R hR => ?_); rw [Try.results65] at hR; refine wg_run ?_; (simp only [Try.f65, go_sem])
      repeat' (first | (first | (simp only [go_sem, hd, hn]) | ((first | refine wd_split _ (fun hb => ?_) (fun hb => ?_) | refine wd_nwant _ (fun hb => ?_) (fun hb => ?_) | refine wm_nwant _ (fun hb => ?_) (fun hb => ?_) | refine wd_want _ (fun hb => ?_) (fun hb => ?_) | refine wm_want _ (fun hb => ?_) (fun hb => ?_) | refine wt_nwant _ (fun hb => ?_) (fun hb => ?_) | refine wt_want _ (fun hb => ?_) (fun hb => ?_)) <;> (simp only [go_sem, hb, hd, hn])) | (refine wm_done ?_; (simp only [go_sem, hd, hn])) | (refine wt_done ?_; (simp only [go_sem, hd, hn])) | (refine wg_run ?_; (simp only [go_sem, hd, hn])) | (refine wt_fork (by (simp only [go_sem]); first | done | rfl) ?_ ?_ <;> (simp only [go_sem, hd, hn]))) | ((first | refine wd_mix 6 [] follows (by decide +kernel) (by (simp only [go_sem]); first | done | rfl) ?_ | refine wd_mix 5 [] follows (by decide +kernel) (by (simp only [go_sem]); first | done | rfl) ?_ | refine wd_mix 4 [] follows (by decide +kernel) (by (simp only [go_sem]); first | done | rfl) ?_ | refine wd_mix 3 [] follows (by decide +kernel) (by (simp only [go_sem]); first | done | rfl) ?_ | refine wd_mix 2 [] follows (by decide +kernel) (by (simp only [go_sem]); first | done | rfl) ?_ | refine wd_mix 1 [] follows (by decide +kernel) (by (simp only [go_sem]); first | done | rfl) ?_ | refine wd_mix 0 [] follows (by decide +kernel) (by (simp only [go_sem]); first | done | rfl) ?_ | fail); (simp only [go_sem, hd])) | (first | refine wd_fn (by (simp only [go_sem]); first | done | rfl) (hco) ?_ | refine wm_fn (by (simp only [go_sem]); first | done | rfl) (hco) (by (simp only [go_sem]); first | done | rfl) (by (simp only [go_sem]); first | done | rfl) ?_ | refine wt_fn (by (simp only [go_sem]); first | done | rfl) (hco) (by (simp only [go_sem]); first | done | rfl) (by (simp only [go_sem]); first | done | rfl) ?_); (simp only [go_sem]))
      (refine hR _ (ret_at [] (by (simp only [go_sem]); first | done | rfl) (by (simp only [go_sem]); first | done | rfl) ⟨rfl, rfl⟩))
theorem coValid (c : Co) : AFn Try.prog 23 [.agg (coC c)] (.one (.sc (.bool c.valid))) := by
  refine fn_in ?_; refine acl_in Try.func23 rfl isfn_23 (Nat.le_of_ble_eq_true rfl) (fun R hR => ?_); rw [Try.results23] at hR; refine wg_run ?_; (simp only [Try.f23, go_sem])
  (first | refine wd_fn (by (simp only [go_sem]); first | done | rfl) (coScan 9 (by omega) _) ?_ | refine wm_fn (by (simp only [go_sem]); first | done | rfl) (coScan 9 (by omega) _) (by (simp only [go_sem]); first | done | rfl) (by (simp only [go_sem]); first | done | rfl) ?_ | refine wt_fn (by (simp only [go_sem]); first | done | rfl) (coScan 9 (by omega) _) (by (simp only [go_sem]); first | done | rfl) (by (simp only [go_sem]); first | done | rfl) ?_); (simp only [go_sem])
  (refine hR _ (ret_at [] (by (simp only [go_sem]); first | done | rfl) (by (simp only [go_sem]); first | done | rfl) ⟨?_, rfl⟩))
  rfl
end Go.Proofs.Ytbiobfbonpiiiaa
/- Casts as coercions. No program, no world. -/
namespace Go.Proofs.Grad
def castM (a b : T) : Nat := 2 * (a.size + b.size) + (match a, b with | .any, .any => 0 | .any, _ => 5 | _, .any => 5 | _, _ => 0)
/-- the coercion of a cast between types -/
def T.cast (a b : T) (l : Int) : K :=
  match a, b with
  | .any, .any => .id 1
  | .int, .any => .inj (.id 2)
  | .bool, .any => .inj (.id 3)
  | .fn a1 a2, .any => .inj (.fn (T.cast .any a1 (-l)) (T.cast a2 .any l))
  | .pr a1 a2, .any => .inj (.pr (T.cast a1 .any l) (T.cast a2 .any l))
  | .any, .int => .prj l (.id 2)
  | .any, .bool => .prj l (.id 3)
  | .any, .fn b1 b2 => .prj l (.fn (T.cast b1 .any (-l)) (T.cast .any b2 l))
  | .any, .pr b1 b2 => .prj l (.pr (T.cast .any b1 l) (T.cast .any b2 l))
  | .fn a1 a2, .fn b1 b2 => .fn (T.cast b1 a1 (-l)) (T.cast a2 b2 l)
  | .pr a1 a2, .pr b1 b2 => .pr (T.cast a1 b1 l) (T.cast a2 b2 l)
  | .int, _ => .id 2
  | .bool, _ => .id 3
  | _, _ => .id 1
termination_by a.size + b.size
decreasing_by all_goals (simp only [T.size]; omega)
theorem T.cons_any (a : T) : a.cons .any = true := by cases a <;> rfl
theorem lab_neg {l : Int} (h : lab l = true) : lab (-l) = true := by
  simp [lab] at *; omega
theorem T.cast_wf (a b : T) (l : Int) (hl : lab l = true) : (T.cast a b l).wf = true := by
  fun_induction T.cast a b l <;> simp_all [K.wf, K.plain, K.isPrj, K.isAny, lab_neg]
theorem T.cast_size (a b : T) (l : Int) : (T.cast a b l).size + 2 ≤ 2 * (a.size + b.size) := by
  have := T.size_pos a; have := T.size_pos b
  fun_induction T.cast a b l <;> simp_all [K.size, T.size, T.size_pos] <;> (try omega)
  all_goals grind [T.size_pos]
theorem T.depth_pos (a : T) : 1 ≤ a.depth := by cases a <;> simp [T.depth]
theorem T.cast_depth (a b : T) (l : Int) : (T.cast a b l).depth ≤ 2 * max a.depth b.depth := by
  fun_induction T.cast a b l <;> simp only [K.depth, T.depth] at * <;> (try omega)
  all_goals grind [T.depth_pos]
end Go.Proofs.Grad
/- Laws of composition. No program, no world. -/
namespace Go.Proofs.Grad
theorem K.isPrj_id (g : Int) : (K.id g).isPrj = false := rfl
theorem K.isPrj_fn (a b : K) : (K.fn a b).isPrj = false := rfl
theorem K.isPrj_pr (a b : K) : (K.pr a b).isPrj = false := rfl
theorem K.isPrj_inj (c : K) : (K.inj c).isPrj = false := rfl
theorem K.isPrj_prj (l : Int) (c : K) : (K.prj l c).isPrj = true := rfl
theorem K.isPrj_fail (l g : Int) : (K.fail l g).isPrj = false := rfl
theorem K.isAny_id (g : Int) : (K.id g).isAny = (g == 1) := rfl
theorem K.isAny_fn (a b : K) : (K.fn a b).isAny = false := rfl
theorem K.isAny_pr (a b : K) : (K.pr a b).isAny = false := rfl
theorem K.isAny_inj (c : K) : (K.inj c).isAny = false := rfl
theorem K.isAny_prj (l : Int) (c : K) : (K.prj l c).isAny = false := rfl
theorem K.isAny_fail (l g : Int) : (K.fail l g).isAny = false := rfl
theorem K.plain_id (g : Int) : (K.id g).plain = (g != 1) := rfl
theorem K.plain_fn (a b : K) : (K.fn a b).plain = true := rfl
theorem K.plain_pr (a b : K) : (K.pr a b).plain = true := rfl
theorem K.plain_inj (c : K) : (K.inj c).plain = false := rfl
theorem K.plain_prj (l : Int) (c : K) : (K.prj l c).plain = false := rfl
theorem K.plain_fail (l g : Int) : (K.fail l g).plain = false := rfl
theorem K.plain_np {k : K} (h : k.plain = true) : k.isPrj = false ∧ k.isAny = false := by
  cases k <;> simp_all [K.isPrj_id, K.isPrj_fn, K.isPrj_pr, K.isPrj_inj, K.isPrj_prj, K.isPrj_fail, K.isAny_id, K.isAny_fn, K.isAny_pr, K.isAny_inj, K.isAny_prj, K.isAny_fail, K.plain_id, K.plain_fn, K.plain_pr, K.plain_inj, K.plain_prj, K.plain_fail]
theorem K.plain_tag {k : K} (h : k.plain = true) (w : k.wf = true) : 2 ≤ k.tag ∧ k.tag ≤ 5 := by
  cases k <;> simp_all [K.isPrj_id, K.isPrj_fn, K.isPrj_pr, K.isPrj_inj, K.isPrj_prj, K.isPrj_fail, K.isAny_id, K.isAny_fn, K.isAny_pr, K.isAny_inj, K.isAny_prj, K.isAny_fail, K.plain_id, K.plain_fn, K.plain_pr, K.plain_inj, K.plain_prj, K.plain_fail, K.wf, K.tag]
  omega
theorem K.comp_head (a b : K) : ∀ k, a.comp b = some k → a.wf = true → a.isPrj = false → a.isAny = false → k.isPrj = false ∧ k.isAny = false := by
  fun_induction K.comp a b <;> intro k hk h1 h2 h3 <;> (try simp only [Option.map_eq_some_iff] at hk) <;> grind [K.plain_np, K.wf, K.isPrj_id, K.isPrj_fn, K.isPrj_pr, K.isPrj_inj, K.isPrj_prj, K.isPrj_fail, K.isAny_id, K.isAny_fn, K.isAny_pr, K.isAny_inj, K.isAny_prj, K.isAny_fail, K.plain_id, K.plain_fn, K.plain_pr, K.plain_inj, K.plain_prj, K.plain_fail]
theorem K.comp_plain (a b : K) : ∀ k, a.comp b = some k → a.plain = true → b.plain = true → k.plain = true := by
  intro k hk h1 h2
  cases a <;> cases b <;> simp_all [K.comp, K.isPrj_id, K.isPrj_fn, K.isPrj_pr, K.isPrj_inj, K.isPrj_prj, K.isPrj_fail, K.isAny_id, K.isAny_fn, K.isAny_pr, K.isAny_inj, K.isAny_prj, K.isAny_fail, K.plain_id, K.plain_fn, K.plain_pr, K.plain_inj, K.plain_prj, K.plain_fail]
  all_goals (try grind [K.isPrj_id, K.isPrj_fn, K.isPrj_pr, K.isPrj_inj, K.isPrj_prj, K.isPrj_fail, K.isAny_id, K.isAny_fn, K.isAny_pr, K.isAny_inj, K.isAny_prj, K.isAny_fail, K.plain_id, K.plain_fn, K.plain_pr, K.plain_inj, K.plain_prj, K.plain_fail])
theorem K.comp_wf (a b : K) : ∀ k, a.comp b = some k → a.wf = true → b.wf = true → k.wf = true := by
  fun_induction K.comp a b <;> intro k hk h1 h2 <;> (try simp only [Option.map_eq_some_iff] at hk) <;> grind [K.wf, K.comp_plain, K.comp_head, K.plain_np, K.plain_tag, K.isPrj_id, K.isPrj_fn, K.isPrj_pr, K.isPrj_inj, K.isPrj_prj, K.isPrj_fail, K.isAny_id, K.isAny_fn, K.isAny_pr, K.isAny_inj, K.isAny_prj, K.isAny_fail, K.plain_id, K.plain_fn, K.plain_pr, K.plain_inj, K.plain_prj, K.plain_fail]
theorem K.comp_size (a b : K) : ∀ k, a.comp b = some k → k.size ≤ a.size + b.size := by
  fun_induction K.comp a b <;> intro k hk <;> simp_all [K.size]
  all_goals (try grind [K.size])
end Go.Proofs.Grad
