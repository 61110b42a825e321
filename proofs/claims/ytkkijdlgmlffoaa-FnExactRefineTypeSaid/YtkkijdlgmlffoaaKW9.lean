/- Texts of the proof, one behind another. -/
import Derived.Test.YtkkijdlgmlffoaaKW7
import Derived.Test.YtkkijdlgmlffoaaKW8
set_option linter.unusedSimpArgs false
set_option linter.unusedVariables false
/- Types: the program's checks, on shadows. -/
namespace Go.Proofs.Sh
open Go.Proofs.Grad
end Go.Proofs.Sh
namespace Go.Proofs.Ytkkijdlgmlffoaa
open Go.RowKit Go.Proofs.Sh Go.Proofs.Grad
set_option maxRecDepth 100000
set_option maxHeartbeats 4000000
/-- the index of the first one, -1 for none -/
def idx (p : Ty → Bool) : Nat → List Ty → Int
  | _, [] => -1
  | k, t :: l => if p t then (k : Nat) else idx p (k + 1) l
theorem idx_any (p : Ty → Bool) : ∀ (l : List Ty) (k : Nat), decide (0 ≤ idx p k l) = l.any p
  | [], k => by simp [idx]
  | t :: l, k => by
    simp only [idx, List.any_cons]
    split
    · rename_i h; simp [h]
    · rename_i h; rw [idx_any p l (k + 1)]; simp [h]
theorem indexFunc1 (g : FuncId) (d : Int) (p : Ty → Bool) (l : List Ty) (hl : l.length < 4611686018427387904)
    (hg : ∀ k, k < l.length → ACl Try.prog g [.agg (tyC (kid l k)), .one (.ptr 1 0 0 0)] [⟨1, 3, .mut, [[.sc (.int .i64 d)]]⟩] (fun r H' => r = .one (.sc (.bool (p (kid l k)))) ∧ H' = [⟨1, 3, .mut, [[.sc (.int .i64 d)]]⟩])) :
    ACl Try.prog 74 [.one (.sl (tyR l)), .one (.fn g [.ptr 1 0 0 0])] [⟨1, 3, .mut, [[.sc (.int .i64 d)]]⟩] (fun r H' => r = .one (.sc (.int .i64 (idx p 0 l))) ∧ H' = [⟨1, 3, .mut, [[.sc (.int .i64 d)]]⟩]) := by
  refine acl_in Try.func74 rfl isfn_74 (Nat.le_of_ble_eq_true rfl) (fun R hR => ?_); rw [Try.results74] at hR; refine wg_run ?_; (simp only [Try.f74, go_sem])
  refine wd_for [0, 1, 7, 8] (fun k => [.one (.sl (tyR l)), .one (.fn g [.ptr 1 0 0 0]), .one (.sc (.int .i64 l.length)), .one (.sc (.int .i64 (k : Nat)))]) (fun k => [⟨1, 3, .mut, [[.sc (.int .i64 d)]]⟩])
      (fun k => k ≤ l.length ∧ idx p k (l.drop k) = idx p 0 l) (fun k => l.length - k) 0 ⟨Nat.zero_le _, rfl⟩ (hat [] (hI := ⟨rfl, rfl⟩)) ?_
  rintro k ⟨hk, hs⟩ G hG
  refine wg_run ?_
  (simp only [go_sem])
  ((first | apply sp1 | apply sp2 | apply sp3 | apply sp4 | apply sp5 | apply sp6 | apply sp7) <;> intro hb) <;> (simp only [go_sem, hb])
  · have hk1 : k < l.length := by have := of_decide_eq_true hb; omega
    rw [drop_kid hk1, idx] at hs
    have hw1 := wrap_succ hk1 (by omega)
    (first | refine kdq [0] ?_ (hc := hg k hk1) | refine kmq [0] ?_ (hc := hg k hk1) | refine ktq [0] ?_ (hc := hg k hk1)); rintro _ _ ⟨rfl, rfl⟩; (simp only [go_sem])
    repeat' (first | (simp only [go_sem, hw1]) | (((first | apply sp1 | apply sp2 | apply sp3 | apply sp4 | apply sp5 | apply sp6 | apply sp7) <;> intro hb) <;> (simp only [go_sem, hb, hw1])) | ((first | apply wm_done | apply wt_done | apply wg_run | refine fk ?_ ?_) <;> (simp only [go_sem, hw1])))
    · (refine hR _ (rat [] (hK := ⟨?_, ?_⟩)))
      · simpa [hb] using hs
      · rfl
    · exact hG (k + 1) _ _ ⟨by omega, by simpa [hb] using hs⟩ (by omega) (hat [] (hI := ⟨rfl, rfl⟩))
  · have hk1 : ¬ k < l.length := by have := of_decide_eq_false hb; omega
    rw [List.drop_eq_nil_of_le (by omega), idx] at hs
    (refine hR _ (rat [] (hK := ⟨?_, ?_⟩)))
    · rw [← hs]
    · rfl
theorem containsFunc1 (g : FuncId) (d : Int) (p : Ty → Bool) (l : List Ty) (hl : l.length < 4611686018427387904)
    (hg : ∀ k, k < l.length → ACl Try.prog g [.agg (tyC (kid l k)), .one (.ptr 1 0 0 0)] [⟨1, 3, .mut, [[.sc (.int .i64 d)]]⟩] (fun r H' => r = .one (.sc (.bool (p (kid l k)))) ∧ H' = [⟨1, 3, .mut, [[.sc (.int .i64 d)]]⟩])) :
    ACl Try.prog 69 [.one (.sl (tyR l)), .one (.fn g [.ptr 1 0 0 0])] [⟨1, 3, .mut, [[.sc (.int .i64 d)]]⟩] (fun r H' => r = .one (.sc (.bool (l.any p))) ∧ H' = [⟨1, 3, .mut, [[.sc (.int .i64 d)]]⟩]) := by
  have hi := indexFunc1 g d p l hl hg
  refine acl_in Try.func69 rfl isfn_69 (Nat.le_of_ble_eq_true rfl) (fun R hR => ?_); rw [Try.results69] at hR; refine wg_run ?_; (simp only [Try.f69, go_sem])
  (first | refine kdq [0] ?_ (hc := hi) | refine kmq [0] ?_ (hc := hi) | refine ktq [0] ?_ (hc := hi)); rintro _ _ ⟨rfl, rfl⟩; (simp only [go_sem])
  (refine hR _ (rat [] (hK := ⟨?_, ?_⟩)))
  · rw [← idx_any p l 0]
  · rfl
end Go.Proofs.Ytkkijdlgmlffoaa
/- Types: copies, on shadows. -/
namespace Go.Proofs.Ytkkijdlgmlffoaa
open Go.RowKit Go.Proofs.Sh Go.Proofs.Grad
set_option maxRecDepth 100000
set_option maxHeartbeats 4000000
theorem l1Copy (n : Nat) (hn : n ≤ 4398046511104) : ∀ t : Ty, t.size < n → AFn Try.prog 67 [.agg (tyC t)] (.agg (tyC t)) := by
  induction n with
  | zero => intro t h; omega
  | succ n ih =>
    intro t h
    have hl : t.kids.length < 4398046511104 := by have := Ty.length_le_sizes t.kids; cases t; simp only [Ty.size, Ty.kids] at *; omega
    refine fn_in ?_; refine acl_in Try.func67 rfl isfn_67 (Nat.le_of_ble_eq_true rfl) (fun R hR => ?_); rw [Try.results67] at hR; refine wg_run ?_; (simp only [Try.f67, go_sem])
    refine wd_for [1, 2, 3, 4] (fun k => [.one (.ptr 2 0 0 0), .one (.ptr 2 1 0 0), .one (.ptr 2 2 0 0), .one (.sc (.int .i64 (k : Nat)))])
      (fun k => [⟨2, 29, .mut, [tyC t]⟩, ⟨2, 29, .mut, [[.sc (.int .i64 0), .sc (.slice none 0 0)]]⟩] ++ (match k with | 0 => [⟨2, 29, .mut, [[.sc (.int .i64 t.kind), .sc (.slice none 0 0)]]⟩] | k + 1 => [⟨2, 29, .mut, [[.sc (.int .i64 t.kind), .row 2 3 (k + 1)]]⟩, ⟨2, 29, .mut, tyR (t.kids.take (k + 1))⟩]))
      (fun k => k ≤ t.kids.length) (fun k => t.kids.length - k) 0 (Nat.zero_le _) (hat [0, 1, 2] (hI := ⟨rfl, rfl⟩)) ?_
    rintro (_ | k) hk G hG
    · refine wg_run ?_
      (simp only [go_sem])
      ((first | apply sp1 | apply sp2 | apply sp3 | apply sp4 | apply sp5 | apply sp6 | apply sp7) <;> intro hb) <;> (simp only [go_sem, hb])
      · have hk1 : 0 < t.kids.length := by have := of_decide_eq_true hb; omega
        ((first | refine mxq6 [] ?_ | refine mxq5 [] ?_ | refine mxq4 [] ?_ | refine mxq3 [] ?_ | refine mxq2 [] ?_ | refine mxq1 [] ?_ | refine mxq0 [] ?_ | fail); (simp only [go_sem]))
        (simp only [go_sem, hb])
        (first | refine cdq ?_ (hc := ih (by omega) _ (by have := kid_lt hk1; omega)) | refine cmq ?_ (hc := ih (by omega) _ (by have := kid_lt hk1; omega)) | refine ctq ?_ (hc := ih (by omega) _ (by have := kid_lt hk1; omega))); (simp only [go_sem])
        repeat' (first | (((first | apply sp1 | apply sp2 | apply sp3 | apply sp4 | apply sp5 | apply sp6 | apply sp7) <;> intro hb) <;> (simp only [go_sem, hb])) | ((first | apply wm_done | apply wt_done | apply wg_run | refine fk ?_ ?_) <;> (simp only [go_sem])))
        refine hG 1 _ _ (by omega) (by omega) (hat [0, 1, 2, 4] (hI := ⟨rfl, ?_⟩))
        simp only [tyR_take hk1, List.take_zero, tyR, List.nil_append, List.cons_append]
      · have hk1 : t.kids = [] := by have := of_decide_eq_false hb; exact List.eq_nil_of_length_eq_zero (by omega)
        (refine hR _ (rat [] (hK := ⟨?_, rfl⟩)))
        rw [tyC_eq, hk1]; rfl
    · refine wg_run ?_
      have hw1 : k + 1 < t.kids.length → IntKind.i64.wrap (((k + 1 : Nat) : Int) + 1) = ((k + 1 + 1 : Nat) : Int) := fun h => wrap_succ h (by omega)
      (simp only [go_sem])
      ((first | apply sp1 | apply sp2 | apply sp3 | apply sp4 | apply sp5 | apply sp6 | apply sp7) <;> intro hb) <;> (simp only [go_sem, hb])
      · have hk1 : k + 1 < t.kids.length := by have := of_decide_eq_true hb; omega
        have hw1 := hw1 hk1
        ((first | refine mxq6 [] ?_ | refine mxq5 [] ?_ | refine mxq4 [] ?_ | refine mxq3 [] ?_ | refine mxq2 [] ?_ | refine mxq1 [] ?_ | refine mxq0 [] ?_ | fail); (simp only [go_sem]))
        (simp only [go_sem, hb])
        have hlen : (t.kids.take (k + 1)).length = k + 1 := by rw [List.length_take]; omega
        have hcap : (k + 1 + 1) * 32 ≤ 140737488355328 := by omega
        (first | refine cdq ?_ (hc := ih (by omega) _ (by have := kid_lt hk1; omega)) | refine cmq ?_ (hc := ih (by omega) _ (by have := kid_lt hk1; omega)) | refine ctq ?_ (hc := ih (by omega) _ (by have := kid_lt hk1; omega))); (simp only [go_sem])
        repeat' (first | (simp only [go_sem, hlen, hcap, hw1]) | (((first | apply sp1 | apply sp2 | apply sp3 | apply sp4 | apply sp5 | apply sp6 | apply sp7) <;> intro hb) <;> (simp only [go_sem, hb, hlen, hcap, hw1])) | ((first | apply wm_done | apply wt_done | apply wg_run | refine fk ?_ ?_) <;> (simp only [go_sem, hlen, hcap, hw1])))
        refine hG (k + 2) _ _ (by omega) (by omega) (hat [0, 1, 2, 5] (hI := ⟨rfl, ?_⟩))
        rw [← tyR_take hk1]
        rfl
      · have hk1 : t.kids.take (k + 1) = t.kids := by have := of_decide_eq_false hb; exact List.take_of_length_le (by omega)
        have hlen : t.kids.length = k + 1 := by have := of_decide_eq_false hb; omega
        rw [hk1]
        (refine hR _ (ret_at [] (by (simp only [go_sem, hlen]); first | done | rfl) (by (simp only [go_sem, hlen]); first | done | rfl) ⟨?_, rfl⟩))
        rw [tyC_eq]
/-- a copy, its uppermost slice its own -/
def OwnTy (t : Ty) (r : AV) (H' : List Blk) : Prop := (t.kids = [] ∧ r = .agg [.sc (.int .i64 t.kind), .sc (.slice none 0 0)] ∧ H' = []) ∨ (0 < t.kids.length ∧ r = .agg [.sc (.int .i64 t.kind), .row 2 0 t.kids.length] ∧ H' = [⟨2, 29, .mut, tyR t.kids⟩])
theorem l1CopyO (n : Nat) (hn : n ≤ 4398046511104) (t : Ty) (h : t.size < n) : ACl Try.prog 67 [.agg (tyC t)] [] (OwnTy t) := by
  have ih := l1Copy n hn
  have hl : t.kids.length < 4398046511104 := by have := Ty.length_le_sizes t.kids; cases t; simp only [Ty.size, Ty.kids] at *; omega
  refine acl_in Try.func67 rfl isfn_67 (Nat.le_of_ble_eq_true rfl) (fun R hR => ?_); rw [Try.results67] at hR; refine wg_run ?_; (simp only [Try.f67, go_sem])
  refine wd_for [1, 2, 3, 4] (fun k => [.one (.ptr 2 0 0 0), .one (.ptr 2 1 0 0), .one (.ptr 2 2 0 0), .one (.sc (.int .i64 (k : Nat)))])
    (fun k => [⟨2, 29, .mut, [tyC t]⟩, ⟨2, 29, .mut, [[.sc (.int .i64 0), .sc (.slice none 0 0)]]⟩] ++ (match k with | 0 => [⟨2, 29, .mut, [[.sc (.int .i64 t.kind), .sc (.slice none 0 0)]]⟩] | k + 1 => [⟨2, 29, .mut, [[.sc (.int .i64 t.kind), .row 2 3 (k + 1)]]⟩, ⟨2, 29, .mut, tyR (t.kids.take (k + 1))⟩]))
    (fun k => k ≤ t.kids.length) (fun k => t.kids.length - k) 0 (Nat.zero_le _) (hat [0, 1, 2] (hI := ⟨rfl, rfl⟩)) ?_
  rintro (_ | k) hk G hG
  · refine wg_run ?_
    (simp only [go_sem])
    ((first | apply sp1 | apply sp2 | apply sp3 | apply sp4 | apply sp5 | apply sp6 | apply sp7) <;> intro hb) <;> (simp only [go_sem, hb])
    · have hk1 : 0 < t.kids.length := by have := of_decide_eq_true hb; omega
      ((first | refine mxq6 [] ?_ | refine mxq5 [] ?_ | refine mxq4 [] ?_ | refine mxq3 [] ?_ | refine mxq2 [] ?_ | refine mxq1 [] ?_ | refine mxq0 [] ?_ | fail); (simp only [go_sem]))
      (simp only [go_sem, hb])
      (first | refine cdq ?_ (hc := ih _ (by have := kid_lt hk1; omega)) | refine cmq ?_ (hc := ih _ (by have := kid_lt hk1; omega)) | refine ctq ?_ (hc := ih _ (by have := kid_lt hk1; omega))); (simp only [go_sem])
      repeat' (first | (((first | apply sp1 | apply sp2 | apply sp3 | apply sp4 | apply sp5 | apply sp6 | apply sp7) <;> intro hb) <;> (simp only [go_sem, hb])) | ((first | apply wm_done | apply wt_done | apply wg_run | refine fk ?_ ?_) <;> (simp only [go_sem])))
      refine hG 1 _ _ (by omega) (by omega) (hat [0, 1, 2, 4] (hI := ⟨rfl, ?_⟩))
      simp only [tyR_take hk1, List.take_zero, tyR, List.nil_append, List.cons_append]
    · have hk1 : t.kids = [] := by have := of_decide_eq_false hb; exact List.eq_nil_of_length_eq_zero (by omega)
      exact hR _ (rwn [] (hK := (.inl ⟨hk1, rfl, rfl⟩)))
  · refine wg_run ?_
    have hw1 : k + 1 < t.kids.length → IntKind.i64.wrap (((k + 1 : Nat) : Int) + 1) = ((k + 1 + 1 : Nat) : Int) := fun h => wrap_succ h (by omega)
    (simp only [go_sem])
    ((first | apply sp1 | apply sp2 | apply sp3 | apply sp4 | apply sp5 | apply sp6 | apply sp7) <;> intro hb) <;> (simp only [go_sem, hb])
    · have hk1 : k + 1 < t.kids.length := by have := of_decide_eq_true hb; omega
      have hw1 := hw1 hk1
      ((first | refine mxq6 [] ?_ | refine mxq5 [] ?_ | refine mxq4 [] ?_ | refine mxq3 [] ?_ | refine mxq2 [] ?_ | refine mxq1 [] ?_ | refine mxq0 [] ?_ | fail); (simp only [go_sem]))
      (simp only [go_sem, hb])
      have hlen : (t.kids.take (k + 1)).length = k + 1 := by rw [List.length_take]; omega
      have hcap : (k + 1 + 1) * 32 ≤ 140737488355328 := by omega
      (first | refine cdq ?_ (hc := ih _ (by have := kid_lt hk1; omega)) | refine cmq ?_ (hc := ih _ (by have := kid_lt hk1; omega)) | refine ctq ?_ (hc := ih _ (by have := kid_lt hk1; omega))); (simp only [go_sem])
      repeat' (first | (simp only [go_sem, hlen, hcap, hw1]) | (((first | apply sp1 | apply sp2 | apply sp3 | apply sp4 | apply sp5 | apply sp6 | apply sp7) <;> intro hb) <;> (simp only [go_sem, hb, hlen, hcap, hw1])) | ((first | apply wm_done | apply wt_done | apply wg_run | refine fk ?_ ?_) <;> (simp only [go_sem, hlen, hcap, hw1])))
      refine hG (k + 2) _ _ (by omega) (by omega) (hat [0, 1, 2, 5] (hI := ⟨rfl, ?_⟩))
      rw [← tyR_take hk1]
      rfl
    · have hk1 : t.kids.take (k + 1) = t.kids := by have := of_decide_eq_false hb; exact List.take_of_length_le (by omega)
      have hlen : t.kids.length = k + 1 := by have := of_decide_eq_false hb; omega
      rw [hk1]
      exact hR _ (ret_own [3] (by (simp only [go_sem, hlen]); first | done | rfl) (by (simp only [go_sem, hlen]); first | done | rfl) (.inr ⟨by omega, by rw [hlen], rfl⟩))
end Go.Proofs.Ytkkijdlgmlffoaa
/- Types: copies in the program, on shadows. -/
namespace Go.Proofs.Ytkkijdlgmlffoaa
open Go.RowKit Go.Proofs.Sh Go.Proofs.Grad
set_option maxRecDepth 100000
set_option maxHeartbeats 4000000
theorem iOwnTy (n : Nat) (hn : n ≤ 4398046511104) : ∀ t : Ty, t.size < n → AFn Try.prog 73 [.agg (tyC t)] (.agg (tyC t)) := by
  induction n with
  | zero => intro t h; omega
  | succ n ih =>
    intro t h
    have hl : t.kids.length < 4398046511104 := by have := Ty.length_le_sizes t.kids; cases t; simp only [Ty.size, Ty.kids] at *; omega
    refine fn_in ?_; refine acl_in Try.func73 rfl isfn_73 (Nat.le_of_ble_eq_true rfl) (fun R hR => ?_); rw [Try.results73] at hR; refine wg_run ?_; (simp only [Try.f73, go_sem])
    refine wd_for [2, 3, 10, 11, 12] (fun k => [.one (.ptr 2 0 0 0), .one (.ptr 2 1 0 0), .one (.sl (tyR t.kids)), .one (.sc (.int .i64 t.kids.length)), .one (.sc (.int .i64 (k : Nat)))])
      (fun k => [⟨2, 29, .mut, [[.sc (.int .i64 0), .sc (.slice none 0 0)]]⟩] ++ (match k with | 0 => [⟨2, 29, .mut, [[.sc (.int .i64 t.kind), .sc (.slice none 0 0)]]⟩] | k + 1 => [⟨2, 29, .mut, [[.sc (.int .i64 t.kind), .row 2 2 (k + 1)]]⟩, ⟨2, 29, .mut, tyR (t.kids.take (k + 1))⟩]))
      (fun k => k ≤ t.kids.length) (fun k => t.kids.length - k) 0 (Nat.zero_le _) (hat [1, 2] (hI := ⟨rfl, rfl⟩)) ?_
    rintro (_ | k) hk G hG
    · refine wg_run ?_
      (simp only [go_sem])
      ((first | apply sp1 | apply sp2 | apply sp3 | apply sp4 | apply sp5 | apply sp6 | apply sp7) <;> intro hb) <;> (simp only [go_sem, hb])
      · have hk1 : 0 < t.kids.length := by have := of_decide_eq_true hb; omega
        have hc := ih (by omega) (kid t.kids 0) (by have := kid_lt hk1; omega)
        repeat' (first | (first | (simp only [go_sem, hb]) | (((first | apply sp1 | apply sp2 | apply sp3 | apply sp4 | apply sp5 | apply sp6 | apply sp7) <;> intro hb) <;> (simp only [go_sem, hb, hb])) | ((first | apply wm_done | apply wt_done | apply wg_run | refine fk ?_ ?_) <;> (simp only [go_sem, hb]))) | ((first | refine mxq6 [] ?_ | refine mxq5 [] ?_ | refine mxq4 [] ?_ | refine mxq3 [] ?_ | refine mxq2 [] ?_ | refine mxq1 [] ?_ | refine mxq0 [] ?_ | fail); (simp only [go_sem, hb])) | (first | refine cdq ?_ (hc := hc) | refine cmq ?_ (hc := hc) | refine ctq ?_ (hc := hc)); (simp only [go_sem]))
        refine hG 1 _ _ (by omega) (by omega) (hat [0, 1, 4] (hI := ⟨rfl, ?_⟩))
        simp only [tyR_take hk1, List.take_zero, tyR, List.nil_append, List.cons_append]
      · have hk1 : t.kids = [] := by have := of_decide_eq_false hb; exact List.eq_nil_of_length_eq_zero (by omega)
        (refine hR _ (rat [] (hK := ⟨?_, rfl⟩)))
        rw [tyC_eq, hk1]; rfl
    · refine wg_run ?_
      have hw1 : k + 1 < t.kids.length → IntKind.i64.wrap (((k + 1 : Nat) : Int) + 1) = ((k + 1 + 1 : Nat) : Int) := fun h => wrap_succ h (by omega)
      (simp only [go_sem])
      ((first | apply sp1 | apply sp2 | apply sp3 | apply sp4 | apply sp5 | apply sp6 | apply sp7) <;> intro hb) <;> (simp only [go_sem, hb])
      · have hk1 : k + 1 < t.kids.length := by have := of_decide_eq_true hb; omega
        have hw1 := hw1 hk1
        have hlen : (t.kids.take (k + 1)).length = k + 1 := by rw [List.length_take]; omega
        have hcap : (k + 1 + 1) * 32 ≤ 140737488355328 := by omega
        have hc := ih (by omega) (kid t.kids (k + 1)) (by have := kid_lt hk1; omega)
        repeat' (first | (first | (simp only [go_sem, hb, hlen, hcap, hw1]) | (((first | apply sp1 | apply sp2 | apply sp3 | apply sp4 | apply sp5 | apply sp6 | apply sp7) <;> intro hb) <;> (simp only [go_sem, hb, hb, hlen, hcap, hw1])) | ((first | apply wm_done | apply wt_done | apply wg_run | refine fk ?_ ?_) <;> (simp only [go_sem, hb, hlen, hcap, hw1]))) | ((first | refine mxq6 [] ?_ | refine mxq5 [] ?_ | refine mxq4 [] ?_ | refine mxq3 [] ?_ | refine mxq2 [] ?_ | refine mxq1 [] ?_ | refine mxq0 [] ?_ | fail); (simp only [go_sem, hb, hlen, hcap, hw1])) | (first | refine cdq ?_ (hc := hc) | refine cmq ?_ (hc := hc) | refine ctq ?_ (hc := hc)); (simp only [go_sem]))
        refine hG (k + 2) _ _ (by omega) (by omega) (hat [0, 1, 5] (hI := ⟨rfl, ?_⟩))
        rw [← tyR_take hk1]
        rfl
      · have hk1 : t.kids.take (k + 1) = t.kids := by have := of_decide_eq_false hb; exact List.take_of_length_le (by omega)
        have hlen : t.kids.length = k + 1 := by have := of_decide_eq_false hb; omega
        rw [hk1]
        (refine hR _ (ret_at [] (by (simp only [go_sem, hlen]); first | done | rfl) (by (simp only [go_sem, hlen]); first | done | rfl) ⟨?_, rfl⟩))
        rw [tyC_eq]
end Go.Proofs.Ytkkijdlgmlffoaa
/- A slice's tail is cleared: what the region 'clear(s[k:])' does, on shadows; arun with little fuel stops ahead of it. -/
namespace Go.Proofs.Sh
open Go.RowKit
section
variable {P : Program} {N : Nat} {R : ASt → Prop}
theorem wg_runN (n : Nat) {s : ASt} {k : List Item} (h : WD P N R (arun P n k s)) : WG P N R k s := ⟨arun_sound n _ _ h.out⟩
theorem wd_fuel {s : ASt} {k : List Item} (h : WG P N R k s) : WD P N R (.fuel k s) := ⟨h.out⟩
theorem zeroCells_one {z : Array Value} {n : Nat} (hz : ∀ u ∈ z.toList, u.oneCell' = true) : ∀ v ∈ (Builtin.zeroCells z n).toList, v.oneCell' = true := by
  intro v hv
  simp only [Builtin.zeroCells, Array.toList_map, List.mem_map] at hv
  obtain ⟨i, hi, rfl⟩ := hv
  have hi' : i < n * z.size := by simpa using hi
  have hp : 0 < z.size := by
    rcases Nat.eq_zero_or_pos z.size with h | h
    · rw [h] at hi'; simp at hi'
    · exact h
  have hm := Nat.mod_lt i hp
  rw [getElem!_pos z (i % z.size) hm]
  exact hz _ (by simp)
theorem zeroCells_len (z : Array Value) (n : Nat) : (Builtin.zeroCells z n).toList.length = n * z.size := by simp [Builtin.zeroCells]
theorem wg_clear {o3 o4 : Oper} {all : List Oper} {k : List Item} {s : ASt} {t : TypeId} {x lo : Operand} {d sz b n kk : Nat} {ki : IntKind} {ty : TypeId} {rows : List (List C)} {ti te : TI}
    (h3 : o3.op = .slice t x (some lo) none none) (g3 : o3.guard = none) (d3 : o3.dst = some d) (hdn : d < s.n)
    (h4 : o4.op = .call ⟨.builtin .clear, #[.tmp d], #[t]⟩) (g4 : o4.guard = none) (d4 : o4.dst = none)
    (hx : s.eval x = some (.one (.row sz b n))) (hl : s.eval lo = some (.one (.sc (.int ki (kk : Nat))))) (hk : kk < n)
    (hti : tinfo P t = some ti) (ht3 : tk P t = 3) (hte : tinfo P ti.elem = some te) (hes : te.size = sz) (hs0 : 0 < sz)
    (hb : s.h[b]? = some ⟨sz, ty, .mut, rows⟩) (hrl : rows.length = n)
    (h : WG P N R k ⟨s.n, (d, .one .top) :: s.t, s.h.set b ⟨sz, ty, .mut, rows.take kk⟩⟩) : WG P N R (.ops [o3, o4] all :: k) s := by
  refine ⟨?_⟩
  intro X μ0 h0 w0 μ a w hF hT
  have h1 := hF.eval hx
  simp only [AV.rep, C.rep] at h1
  obtain ⟨g, cap, hg, e1, hc1, hc2, cur0, ty0, hcur0, hsz0⟩ := h1
  obtain ⟨cur, hc, hla⟩ := hF.sim.blk b _ g hb rfl hg
  rw [hcur0] at hc
  simp only [Option.some.injEq, Obj.cells.injEq] at hc
  obtain ⟨rfl, rfl, -⟩ := hc
  obtain ⟨it, dd, z, hi, hd, hz, hzc, hzs, rfl⟩ := tinfo_spec hti
  obtain ⟨d', hd', hk3⟩ := tk_some ht3 (by decide)
  rw [hd] at hd'; cases hd'
  obtain ⟨e, rfl⟩ := tkind_slice hk3
  obtain ⟨ie, de, ze, hie, hde, hze, hzec, hzes, rfl⟩ := tinfo_spec hte
  simp only [telem] at hie hde hze hes
  subst hes
  have hne : cap ≠ kk := by omega
  have hle := hF.eval hl
  simp only [AV.rep, C.rep] at hle
  have hlo : abound 0 n ((some lo).map fun o => (s.eval o).getD aundef) = some kk := by
    simp only [Option.map_some, hl, Option.getD_some, abound, Int.toNat_natCast]
    rw [if_pos ⟨by omega, by omega⟩]
  obtain ⟨hbd, -, -⟩ := run_bounds (P := P) (isS := true) (hi := none) (len := n) (cap := cap) (h := n) hF rfl hlo hc1
  simp only [Option.map_some, Option.map_none] at hbd
  have hrun3 : (execOp a.eval o3).run P w = .ok (.value (.slice (some ⟨g, kk * ie.size, none⟩) (n - kk) (cap - kk))) w := by
    simp [execOp, h3, Instr.sliceAt, run_underlying' hd, Instr.slice, e1, hbd, run_sizeOf' hie, hne, addr_add]
  unfold wpList
  rw [wanted_spec hF (b := true) (by rw [g3]; rfl), if_pos rfl]
  left
  unfold Oper.wp
  rw [hrun3]
  have hF3 : SimF X μ ⟨s.n, (d, .one .top) :: s.t, s.h⟩ (a.put o3.dst (.slice (some ⟨g, kk * ie.size, none⟩) (n - kk) (cap - kk))) w := by
    have := hF.put (d := o3.dst) (v := .one .top) (u := .slice (some ⟨g, kk * ie.size, none⟩) (n - kk) (cap - kk)) (by simp only [AV.rep, C.rep]; rfl)
    rw [d3] at this ⊢
    simpa only [ASt.put, if_pos hdn] using this
  have hev : (a.put o3.dst (.slice (some ⟨g, kk * ie.size, none⟩) (n - kk) (cap - kk))).eval (.tmp d) = .slice (some ⟨g, kk * ie.size, none⟩) (n - kk) (cap - kk) := by
    rw [d3]
    simp only [Act.put, Act.eval]
    rw [Array.getD_eq_getD_getElem?, Array.getElem?_setIfInBounds_self_of_lt (by rw [hF.size]; exact hdn)]
    rfl
  obtain ⟨m, hm⟩ : ∃ m, n - kk = m + 1 := ⟨n - kk - 1, by omega⟩
  have hfit : kk * ie.size + (Builtin.zeroCells ze.cells (n - kk)).toList.length ≤ cur0.size := by
    rw [zeroCells_len, hzes, hsz0, ← Nat.add_mul]
    exact Nat.mul_le_mul_right _ (by omega)
  have hst := run_storeCells_at P g (kk * ie.size) ty0 (Builtin.zeroCells ze.cells (n - kk)).toList 0 cur0 w hcur0 (by simpa using hfit) (zeroCells_one hzec)
  simp only [Nat.add_zero] at hst
  rw [hm] at hst hfit hev hF3
  have hrun4 : (execOp (a.put o3.dst (.slice (some ⟨g, kk * ie.size, none⟩) (m + 1) (cap - kk))).eval o4).run P w = .ok (.value (.tuple #[])) (w.setRow g (cur0.toList.take (kk * ie.size) ++ (Builtin.zeroCells ze.cells (m + 1)).toList ++ cur0.toList.drop (kk * ie.size + (Builtin.zeroCells ze.cells (m + 1)).toList.length)).toArray) := by
    simp [execOp, h4, resolve, invoke, hev, builtin, Builtin.clear_, run_underlying' hd, run_zeroValue' hie hze, hst]
  rw [hm]
  show wpList P all.toArray (lift N X μ0 h0 w0 (AGo P N R k)) [o4] (a.put o3.dst (.slice (some ⟨g, kk * ie.size, none⟩) (m + 1) (cap - kk))) w
  unfold wpList
  rw [wanted_spec hF3 (b := true) (by rw [g4]; rfl), if_pos rfl]
  left
  unfold Oper.wp
  rw [hrun4]
  obtain ⟨q1, q2⟩ := hF3.sim.set hb rfl hg hcur0 (cur' := (cur0.toList.take (kk * ie.size) ++ (Builtin.zeroCells ze.cells (m + 1)).toList ++ cur0.toList.drop (kk * ie.size + (Builtin.zeroCells ze.cells (m + 1)).toList.length)).toArray) (by simp at hfit ⊢; omega) (rows := rows.take kk) (by
    intro i r hr
    rw [List.getElem?_take] at hr
    split at hr
    · rename_i hik
      obtain ⟨p1, p2⟩ := hla i r hr
      refine ⟨p1, fun j c hj => ?_⟩
      obtain ⟨u, hu, hur⟩ := p2 j c hj
      have hjl := (List.getElem?_eq_some_iff.1 hj).1
      refine ⟨u, ?_, hur⟩
      rw [repl_at _ _ _ _ hfit, if_neg]
      · exact hu
      · intro ⟨b1, b2⟩
        have := Nat.mul_le_mul_right ie.size (show i + 1 ≤ kk by omega)
        rw [Nat.succ_mul] at this
        have p1' : r.length = ie.size := p1
        have b1' : kk * ie.size ≤ i * ie.size + j := b1
        omega
    · cases hr)
  show wpList P all.toArray (lift N X μ0 h0 w0 (AGo P N R k)) [] ((a.put o3.dst (.slice (some ⟨g, kk * ie.size, none⟩) (m + 1) (cap - kk))).put o4.dst _) _
  rw [d4]
  exact ⟨_, μ, h.out, hF3.step q2 q1, hT.trans q2⟩
theorem wg_upto {o3 : Oper} {l all : List Oper} {k : List Item} {s : ASt} {t : TypeId} {x hi : Operand} {d sz b n kk : Nat} {ki : IntKind} {ti te : TI}
    (h3 : o3.op = .slice t x none (some hi) none) (g3 : o3.guard = none) (d3 : o3.dst = some d) (hdn : d < s.n)
    (hx : s.eval x = some (.one (.row sz b n))) (hl : s.eval hi = some (.one (.sc (.int ki (kk : Nat))))) (hk : kk ≤ n) (hk0 : 0 < n)
    (hti : tinfo P t = some ti) (ht3 : tk P t = 3) (hte : tinfo P ti.elem = some te)
    (h : WG P N R (.ops l all :: k) ⟨s.n, (d, .one (.row sz b kk)) :: s.t, s.h⟩) : WG P N R (.ops (o3 :: l) all :: k) s := by
  refine ⟨?_⟩
  intro X μ0 h0 w0 μ a w hF hT
  have h1 := hF.eval hx
  simp only [AV.rep, C.rep] at h1
  obtain ⟨g, cap, hg, e1, hc1, hc2, cur0, ty0, hcur0, hsz0⟩ := h1
  obtain ⟨it, dd, z, hi', hd, hz, hzc, hzs, rfl⟩ := tinfo_spec hti
  obtain ⟨d', hd', hk3⟩ := tk_some ht3 (by decide)
  rw [hd] at hd'; cases hd'
  obtain ⟨e, rfl⟩ := tkind_slice hk3
  obtain ⟨ie, de, ze, hie, hde, hze, hzec, hzes, rfl⟩ := tinfo_spec hte
  simp only [telem] at hie hde hze
  have hhi : abound n n ((some hi).map fun o => (s.eval o).getD aundef) = some kk := by
    simp only [Option.map_some, hl, Option.getD_some, abound, Int.toNat_natCast]
    rw [if_pos ⟨by omega, by omega⟩]
  obtain ⟨hbd, -, -⟩ := run_bounds (P := P) (isS := true) (lo := none) (len := n) (cap := cap) (l := 0) hF hhi rfl hc1
  simp only [Option.map_some, Option.map_none] at hbd
  have hrun3 : (execOp a.eval o3).run P w = .ok (.value (.slice (some ⟨g, 0, none⟩) kk cap)) w := by
    have hne : cap ≠ 0 := by omega
    simp [execOp, h3, Instr.sliceAt, run_underlying' hd, Instr.slice, e1, hbd, run_sizeOf' hie, hne, addr_add]
  unfold wpList
  rw [wanted_spec hF (b := true) (by rw [g3]; rfl), if_pos rfl]
  left
  unfold Oper.wp
  rw [hrun3]
  have hF3 : SimF X μ ⟨s.n, (d, .one (.row sz b kk)) :: s.t, s.h⟩ (a.put o3.dst (.slice (some ⟨g, 0, none⟩) kk cap)) w := by
    have := hF.put (d := o3.dst) (v := .one (.row sz b kk)) (u := .slice (some ⟨g, 0, none⟩) kk cap) (by simp only [AV.rep, C.rep]; exact ⟨g, cap, hg, rfl, by omega, hc2, cur0, ty0, hcur0, hsz0⟩)
    rw [d3] at this ⊢
    simpa only [ASt.put, if_pos hdn] using this
  exact h.out X μ0 h0 w0 μ _ _ hF3 hT
end
end Go.Proofs.Sh
/- The plain laws of subtyping. -/
namespace Go.Proofs.Grad

end Go.Proofs.Grad
/- Types that are more precise in one place. No program, no world. -/
namespace Go.Proofs.Grad
def T.refs : T → List T
  | .any => [.int, .bool, .fn .any .any, .pr .any .any]
  | .int => [] | .bool => []
  | .fn a b => a.refs.map (fun x => .fn x b) ++ b.refs.map (fun y => .fn a y)
  | .pr a b => a.refs.map (fun x => .pr x b) ++ b.refs.map (fun y => .pr a y)
/-- as the reference counts them: no functions or pairs at the last level -/
def T.steps : T → Nat → List T
  | .any, d => [.int, .bool] ++ (match decide (1 < d) with | true => [.fn .any .any, .pr .any .any] | false => [])
  | .int, _ => [] | .bool, _ => []
  | .fn a b, d => (a.steps (d - 1)).map (fun x => .fn x b) ++ (b.steps (d - 1)).map (fun y => .fn a y)
  | .pr a b, d => (a.steps (d - 1)).map (fun x => .pr x b) ++ (b.steps (d - 1)).map (fun y => .pr a y)
theorem T.refs_steps (t : T) : ∀ d, t.depth ≤ d → t.refs.filter (fun x => decide (x.depth ≤ d)) = t.steps d := by
  induction t with
  | any =>
    intro d h
    simp only [T.depth] at h
    by_cases h1 : 1 < d
    · simp [T.refs, T.steps, T.depth, h1, h]
      omega
    · have : d = 1 := by omega
      subst this
      simp [T.refs, T.steps, T.depth]
  | int => intro d h; rfl
  | bool => intro d h; rfl
  | fn a b iha ihb =>
    intro d h
    simp only [T.depth] at h
    have ha := iha (d - 1) (by omega)
    have hb := ihb (d - 1) (by omega)
    simp only [T.refs, T.steps, List.filter_append, List.filter_map, ← ha, ← hb]
    congr 2
    · apply List.filter_congr; intro x _; show decide (max x.depth b.depth + 1 ≤ d) = decide (x.depth ≤ d - 1); rw [decide_eq_decide]; omega
    · apply List.filter_congr; intro x _; show decide (max a.depth x.depth + 1 ≤ d) = decide (x.depth ≤ d - 1); rw [decide_eq_decide]; omega
  | pr a b iha ihb =>
    intro d h
    simp only [T.depth] at h
    have ha := iha (d - 1) (by omega)
    have hb := ihb (d - 1) (by omega)
    simp only [T.refs, T.steps, List.filter_append, List.filter_map, ← ha, ← hb]
    congr 2
    · apply List.filter_congr; intro x _; show decide (max x.depth b.depth + 1 ≤ d) = decide (x.depth ≤ d - 1); rw [decide_eq_decide]; omega
    · apply List.filter_congr; intro x _; show decide (max a.depth x.depth + 1 ≤ d) = decide (x.depth ≤ d - 1); rw [decide_eq_decide]; omega
/-- places of the unknown type -/
def T.anys : T → Nat
  | .any => 1 | .int => 0 | .bool => 0
  | .fn a b => a.anys + b.anys
  | .pr a b => a.anys + b.anys
theorem T.refs_len (t : T) : t.refs.length = 4 * t.anys := by
  induction t with
  | fn a b iha ihb | pr a b iha ihb => simp only [T.refs, T.anys, List.length_append, List.length_map, iha, ihb]; omega
  | _ => simp [T.refs, T.anys]
theorem T.steps_len (t : T) : ∀ d, 2 * t.anys ≤ (t.steps d).length ∧ (t.steps d).length ≤ 4 * t.anys := by
  induction t with
  | fn a b iha ihb | pr a b iha ihb =>
    intro d
    have := iha (d - 1); have := ihb (d - 1)
    simp only [T.steps, T.anys, List.length_append, List.length_map]; omega
  | any => intro d; simp only [T.steps, T.anys]; split <;> simp
  | _ => intro d; simp [T.steps, T.anys]
end Go.Proofs.Grad
