/- Texts of the proof, one behind another. -/
import Derived.Laws.Strings
import Derived.Test.YtchcbfbnffhifaaKB4
set_option linter.unusedSimpArgs false
set_option linter.unusedVariables false
/- Types: copies, on shadows. -/
namespace Go.Proofs.Ytchcbfbnffhifaa
open Go.RowKit Go.Proofs.Sh Go.Proofs.Grad
set_option maxRecDepth 100000
set_option maxHeartbeats 4000000
theorem l1Copy (n : Nat) (hn : n ≤ 4398046511104) : ∀ t : Ty, t.size < n → AFn Try.prog 124 [.agg (tyC t)] (.agg (tyC t)) := by
  induction n with
  | zero => intro t h; omega
  | succ n ih =>
    intro t h
    have hl : t.kids.length < 4398046511104 := by have := Ty.length_le_sizes t.kids; cases t; simp only [Ty.size, Ty.kids] at *; omega
    refine fn_in ?_; refine acl_in Try.func124 rfl isfn_124 (Nat.le_of_ble_eq_true rfl) (fun R hR => ?_); rw [Try.results124] at hR; refine wg_run ?_; (simp only [Try.f124, go_sem])
    refine wd_for [1, 2, 3, 4] (fun k => [.one (.ptr 2 0 0 0), .one (.ptr 2 1 0 0), .one (.ptr 2 2 0 0), .one (.sc (.int .i64 (k : Nat)))])
      (fun k => [⟨2, 32, .mut, [tyC t]⟩, ⟨2, 32, .mut, [[.sc (.int .i64 0), .sc (.slice none 0 0)]]⟩] ++ (match k with | 0 => [⟨2, 32, .mut, [[.sc (.int .i64 t.kind), .sc (.slice none 0 0)]]⟩] | k + 1 => [⟨2, 32, .mut, [[.sc (.int .i64 t.kind), .row 2 3 (k + 1)]]⟩, ⟨2, 32, .mut, tyR (t.kids.take (k + 1))⟩]))
      (fun k => k ≤ t.kids.length) (fun k => t.kids.length - k) 0 (Nat.zero_le _) (hat [0, 1, 2] (hI := ⟨rfl, rfl⟩)) ?_
    rintro (_ | k) hk G hG
    · refine wg_run ?_
      (simp only [go_sem])
      ((first | refine sp1 ?_ ?_ | refine sp2 ?_ ?_ | refine sp3 ?_ ?_ | refine sp4 ?_ ?_ | refine sp5 ?_ ?_ | refine sp6 ?_ ?_ | refine sp7 ?_ ?_) <;> intro hb) <;> (simp only [go_sem, hb])
      · have hk1 : 0 < t.kids.length := by have := of_decide_eq_true hb; omega
        ((first | refine mx 6 [] follows ?_ | refine mx 5 [] follows ?_ | refine mx 4 [] follows ?_ | refine mx 3 [] follows ?_ | refine mx 2 [] follows ?_ | refine mx 1 [] follows ?_ | refine mx 0 [] follows ?_ | fail); (simp only [go_sem]))
        (simp only [go_sem, hb])
        (first | refine cd (hc := ih (by omega) _ (by have := kid_lt hk1; omega)) (hK := ?_) | refine cm (hc := ih (by omega) _ (by have := kid_lt hk1; omega)) (hK := ?_) | refine ct (hc := ih (by omega) _ (by have := kid_lt hk1; omega)) (hK := ?_)); (simp only [go_sem])
        repeat' (first | (((first | refine sp1 ?_ ?_ | refine sp2 ?_ ?_ | refine sp3 ?_ ?_ | refine sp4 ?_ ?_ | refine sp5 ?_ ?_ | refine sp6 ?_ ?_ | refine sp7 ?_ ?_) <;> intro hb) <;> (simp only [go_sem, hb])) | ((first | refine wm_done ?_ | refine wt_done ?_ | refine wg_run ?_ | refine fk ?_ ?_) <;> (simp only [go_sem])))
        refine hG 1 _ _ (by omega) (by omega) (hat [0, 1, 2, 4] (hI := ⟨rfl, ?_⟩))
        simp only [tyR_take hk1, List.take_zero, tyR, List.nil_append, List.cons_append]
      · have hk1 : t.kids = [] := by have := of_decide_eq_false hb; exact List.eq_nil_of_length_eq_zero (by omega)
        (refine hR _ (rat [] (hK := ⟨?_, rfl⟩)))
        rw [tyC_eq, hk1]; rfl
    · refine wg_run ?_
      have hw1 : k + 1 < t.kids.length → IntKind.i64.wrap (((k + 1 : Nat) : Int) + 1) = ((k + 1 + 1 : Nat) : Int) := fun h => wrap_succ h (by omega)
      (simp only [go_sem])
      ((first | refine sp1 ?_ ?_ | refine sp2 ?_ ?_ | refine sp3 ?_ ?_ | refine sp4 ?_ ?_ | refine sp5 ?_ ?_ | refine sp6 ?_ ?_ | refine sp7 ?_ ?_) <;> intro hb) <;> (simp only [go_sem, hb])
      · have hk1 : k + 1 < t.kids.length := by have := of_decide_eq_true hb; omega
        have hw1 := hw1 hk1
        ((first | refine mx 6 [] follows ?_ | refine mx 5 [] follows ?_ | refine mx 4 [] follows ?_ | refine mx 3 [] follows ?_ | refine mx 2 [] follows ?_ | refine mx 1 [] follows ?_ | refine mx 0 [] follows ?_ | fail); (simp only [go_sem]))
        (simp only [go_sem, hb])
        have hlen : (t.kids.take (k + 1)).length = k + 1 := by rw [List.length_take]; omega
        have hcap : (k + 1 + 1) * 32 ≤ 140737488355328 := by omega
        (first | refine cd (hc := ih (by omega) _ (by have := kid_lt hk1; omega)) (hK := ?_) | refine cm (hc := ih (by omega) _ (by have := kid_lt hk1; omega)) (hK := ?_) | refine ct (hc := ih (by omega) _ (by have := kid_lt hk1; omega)) (hK := ?_)); (simp only [go_sem])
        repeat' (first | (simp only [go_sem, hlen, hcap, hw1]) | (((first | refine sp1 ?_ ?_ | refine sp2 ?_ ?_ | refine sp3 ?_ ?_ | refine sp4 ?_ ?_ | refine sp5 ?_ ?_ | refine sp6 ?_ ?_ | refine sp7 ?_ ?_) <;> intro hb) <;> (simp only [go_sem, hb, hlen, hcap, hw1])) | ((first | refine wm_done ?_ | refine wt_done ?_ | refine wg_run ?_ | refine fk ?_ ?_) <;> (simp only [go_sem, hlen, hcap, hw1])))
        refine hG (k + 2) _ _ (by omega) (by omega) (hat [0, 1, 2, 5] (hI := ⟨rfl, ?_⟩))
        rw [← tyR_take hk1]
        rfl
      · have hk1 : t.kids.take (k + 1) = t.kids := by have := of_decide_eq_false hb; exact List.take_of_length_le (by omega)
        have hlen : t.kids.length = k + 1 := by have := of_decide_eq_false hb; omega
        rw [hk1]
        (refine hR _ (ret_at [] (by (simp only [go_sem, hlen]); first | done | rfl) (by (simp only [go_sem, hlen]); first | done | rfl) ⟨?_, rfl⟩))
        rw [tyC_eq]
/-- a copy, its uppermost slice its own -/
def OwnTy (t : Ty) (r : AV) (H' : List Blk) : Prop := (t.kids = [] ∧ r = .agg [.sc (.int .i64 t.kind), .sc (.slice none 0 0)] ∧ H' = []) ∨ (0 < t.kids.length ∧ r = .agg [.sc (.int .i64 t.kind), .row 2 0 t.kids.length] ∧ H' = [⟨2, 32, .mut, tyR t.kids⟩])
theorem l1CopyO (n : Nat) (hn : n ≤ 4398046511104) (t : Ty) (h : t.size < n) : ACl Try.prog 124 [.agg (tyC t)] [] (OwnTy t) := by
  have ih := l1Copy n hn
  have hl : t.kids.length < 4398046511104 := by have := Ty.length_le_sizes t.kids; cases t; simp only [Ty.size, Ty.kids] at *; omega
  refine acl_in Try.func124 rfl isfn_124 (Nat.le_of_ble_eq_true rfl) (fun R hR => ?_); rw [Try.results124] at hR; refine wg_run ?_; (simp only [Try.f124, go_sem])
  refine wd_for [1, 2, 3, 4] (fun k => [.one (.ptr 2 0 0 0), .one (.ptr 2 1 0 0), .one (.ptr 2 2 0 0), .one (.sc (.int .i64 (k : Nat)))])
    (fun k => [⟨2, 32, .mut, [tyC t]⟩, ⟨2, 32, .mut, [[.sc (.int .i64 0), .sc (.slice none 0 0)]]⟩] ++ (match k with | 0 => [⟨2, 32, .mut, [[.sc (.int .i64 t.kind), .sc (.slice none 0 0)]]⟩] | k + 1 => [⟨2, 32, .mut, [[.sc (.int .i64 t.kind), .row 2 3 (k + 1)]]⟩, ⟨2, 32, .mut, tyR (t.kids.take (k + 1))⟩]))
    (fun k => k ≤ t.kids.length) (fun k => t.kids.length - k) 0 (Nat.zero_le _) (hat [0, 1, 2] (hI := ⟨rfl, rfl⟩)) ?_
  rintro (_ | k) hk G hG
  · refine wg_run ?_
    (simp only [go_sem])
    ((first | refine sp1 ?_ ?_ | refine sp2 ?_ ?_ | refine sp3 ?_ ?_ | refine sp4 ?_ ?_ | refine sp5 ?_ ?_ | refine sp6 ?_ ?_ | refine sp7 ?_ ?_) <;> intro hb) <;> (simp only [go_sem, hb])
    · have hk1 : 0 < t.kids.length := by have := of_decide_eq_true hb; omega
      ((first | refine mx 6 [] follows ?_ | refine mx 5 [] follows ?_ | refine mx 4 [] follows ?_ | refine mx 3 [] follows ?_ | refine mx 2 [] follows ?_ | refine mx 1 [] follows ?_ | refine mx 0 [] follows ?_ | fail); (simp only [go_sem]))
      (simp only [go_sem, hb])
      (first | refine cd (hc := ih _ (by have := kid_lt hk1; omega)) (hK := ?_) | refine cm (hc := ih _ (by have := kid_lt hk1; omega)) (hK := ?_) | refine ct (hc := ih _ (by have := kid_lt hk1; omega)) (hK := ?_)); (simp only [go_sem])
      repeat' (first | (((first | refine sp1 ?_ ?_ | refine sp2 ?_ ?_ | refine sp3 ?_ ?_ | refine sp4 ?_ ?_ | refine sp5 ?_ ?_ | refine sp6 ?_ ?_ | refine sp7 ?_ ?_) <;> intro hb) <;> (simp only [go_sem, hb])) | ((first | refine wm_done ?_ | refine wt_done ?_ | refine wg_run ?_ | refine fk ?_ ?_) <;> (simp only [go_sem])))
      refine hG 1 _ _ (by omega) (by omega) (hat [0, 1, 2, 4] (hI := ⟨rfl, ?_⟩))
      simp only [tyR_take hk1, List.take_zero, tyR, List.nil_append, List.cons_append]
    · have hk1 : t.kids = [] := by have := of_decide_eq_false hb; exact List.eq_nil_of_length_eq_zero (by omega)
      exact hR _ (rwn [] (hK := (.inl ⟨hk1, rfl, rfl⟩)))
  · refine wg_run ?_
    have hw1 : k + 1 < t.kids.length → IntKind.i64.wrap (((k + 1 : Nat) : Int) + 1) = ((k + 1 + 1 : Nat) : Int) := fun h => wrap_succ h (by omega)
    (simp only [go_sem])
    ((first | refine sp1 ?_ ?_ | refine sp2 ?_ ?_ | refine sp3 ?_ ?_ | refine sp4 ?_ ?_ | refine sp5 ?_ ?_ | refine sp6 ?_ ?_ | refine sp7 ?_ ?_) <;> intro hb) <;> (simp only [go_sem, hb])
    · have hk1 : k + 1 < t.kids.length := by have := of_decide_eq_true hb; omega
      have hw1 := hw1 hk1
      ((first | refine mx 6 [] follows ?_ | refine mx 5 [] follows ?_ | refine mx 4 [] follows ?_ | refine mx 3 [] follows ?_ | refine mx 2 [] follows ?_ | refine mx 1 [] follows ?_ | refine mx 0 [] follows ?_ | fail); (simp only [go_sem]))
      (simp only [go_sem, hb])
      have hlen : (t.kids.take (k + 1)).length = k + 1 := by rw [List.length_take]; omega
      have hcap : (k + 1 + 1) * 32 ≤ 140737488355328 := by omega
      (first | refine cd (hc := ih _ (by have := kid_lt hk1; omega)) (hK := ?_) | refine cm (hc := ih _ (by have := kid_lt hk1; omega)) (hK := ?_) | refine ct (hc := ih _ (by have := kid_lt hk1; omega)) (hK := ?_)); (simp only [go_sem])
      repeat' (first | (simp only [go_sem, hlen, hcap, hw1]) | (((first | refine sp1 ?_ ?_ | refine sp2 ?_ ?_ | refine sp3 ?_ ?_ | refine sp4 ?_ ?_ | refine sp5 ?_ ?_ | refine sp6 ?_ ?_ | refine sp7 ?_ ?_) <;> intro hb) <;> (simp only [go_sem, hb, hlen, hcap, hw1])) | ((first | refine wm_done ?_ | refine wt_done ?_ | refine wg_run ?_ | refine fk ?_ ?_) <;> (simp only [go_sem, hlen, hcap, hw1])))
      refine hG (k + 2) _ _ (by omega) (by omega) (hat [0, 1, 2, 5] (hI := ⟨rfl, ?_⟩))
      rw [← tyR_take hk1]
      rfl
    · have hk1 : t.kids.take (k + 1) = t.kids := by have := of_decide_eq_false hb; exact List.take_of_length_le (by omega)
      have hlen : t.kids.length = k + 1 := by have := of_decide_eq_false hb; omega
      rw [hk1]
      exact hR _ (ret_own [3] (by (simp only [go_sem, hlen]); first | done | rfl) (by (simp only [go_sem, hlen]); first | done | rfl) (.inr ⟨by omega, by rw [hlen], rfl⟩))
end Go.Proofs.Ytchcbfbnffhifaa
/- Types: copies in the program, on shadows. -/
namespace Go.Proofs.Ytchcbfbnffhifaa
open Go.RowKit Go.Proofs.Sh Go.Proofs.Grad
set_option maxRecDepth 100000
set_option maxHeartbeats 4000000
theorem iOwnTy (n : Nat) (hn : n ≤ 4398046511104) : ∀ t : Ty, t.size < n → AFn Try.prog 117 [.agg (tyC t)] (.agg (tyC t)) := by
  induction n with
  | zero => intro t h; omega
  | succ n ih =>
    intro t h
    have hl : t.kids.length < 4398046511104 := by have := Ty.length_le_sizes t.kids; cases t; simp only [Ty.size, Ty.kids] at *; omega
    refine fn_in ?_; refine acl_in Try.func117 rfl isfn_117 (Nat.le_of_ble_eq_true rfl) (fun R hR => ?_); rw [Try.results117] at hR; refine wg_run ?_; (simp only [Try.f117, go_sem])
    refine wd_for [2, 3, 10, 11, 12] (fun k => [.one (.ptr 2 0 0 0), .one (.ptr 2 1 0 0), .one (.sl (tyR t.kids)), .one (.sc (.int .i64 t.kids.length)), .one (.sc (.int .i64 (k : Nat)))])
      (fun k => [⟨2, 32, .mut, [[.sc (.int .i64 0), .sc (.slice none 0 0)]]⟩] ++ (match k with | 0 => [⟨2, 32, .mut, [[.sc (.int .i64 t.kind), .sc (.slice none 0 0)]]⟩] | k + 1 => [⟨2, 32, .mut, [[.sc (.int .i64 t.kind), .row 2 2 (k + 1)]]⟩, ⟨2, 32, .mut, tyR (t.kids.take (k + 1))⟩]))
      (fun k => k ≤ t.kids.length) (fun k => t.kids.length - k) 0 (Nat.zero_le _) (hat [1, 2] (hI := ⟨rfl, rfl⟩)) ?_
    rintro (_ | k) hk G hG
    · refine wg_run ?_
      (simp only [go_sem])
      ((first | refine sp1 ?_ ?_ | refine sp2 ?_ ?_ | refine sp3 ?_ ?_ | refine sp4 ?_ ?_ | refine sp5 ?_ ?_ | refine sp6 ?_ ?_ | refine sp7 ?_ ?_) <;> intro hb) <;> (simp only [go_sem, hb])
      · have hk1 : 0 < t.kids.length := by have := of_decide_eq_true hb; omega
        have hc := ih (by omega) (kid t.kids 0) (by have := kid_lt hk1; omega)
        repeat' (first | (first | (simp only [go_sem, hb]) | (((first | refine sp1 ?_ ?_ | refine sp2 ?_ ?_ | refine sp3 ?_ ?_ | refine sp4 ?_ ?_ | refine sp5 ?_ ?_ | refine sp6 ?_ ?_ | refine sp7 ?_ ?_) <;> intro hb) <;> (simp only [go_sem, hb, hb])) | ((first | refine wm_done ?_ | refine wt_done ?_ | refine wg_run ?_ | refine fk ?_ ?_) <;> (simp only [go_sem, hb]))) | ((first | refine mx 6 [] follows ?_ | refine mx 5 [] follows ?_ | refine mx 4 [] follows ?_ | refine mx 3 [] follows ?_ | refine mx 2 [] follows ?_ | refine mx 1 [] follows ?_ | refine mx 0 [] follows ?_ | fail); (simp only [go_sem, hb])) | (first | refine cd (hc := hc) (hK := ?_) | refine cm (hc := hc) (hK := ?_) | refine ct (hc := hc) (hK := ?_)); (simp only [go_sem]))
        refine hG 1 _ _ (by omega) (by omega) (hat [0, 1, 4] (hI := ⟨rfl, ?_⟩))
        simp only [tyR_take hk1, List.take_zero, tyR, List.nil_append, List.cons_append]
      · have hk1 : t.kids = [] := by have := of_decide_eq_false hb; exact List.eq_nil_of_length_eq_zero (by omega)
        (refine hR _ (rat [] (hK := ⟨?_, rfl⟩)))
        rw [tyC_eq, hk1]; rfl
    · refine wg_run ?_
      have hw1 : k + 1 < t.kids.length → IntKind.i64.wrap (((k + 1 : Nat) : Int) + 1) = ((k + 1 + 1 : Nat) : Int) := fun h => wrap_succ h (by omega)
      (simp only [go_sem])
      ((first | refine sp1 ?_ ?_ | refine sp2 ?_ ?_ | refine sp3 ?_ ?_ | refine sp4 ?_ ?_ | refine sp5 ?_ ?_ | refine sp6 ?_ ?_ | refine sp7 ?_ ?_) <;> intro hb) <;> (simp only [go_sem, hb])
      · have hk1 : k + 1 < t.kids.length := by have := of_decide_eq_true hb; omega
        have hw1 := hw1 hk1
        have hlen : (t.kids.take (k + 1)).length = k + 1 := by rw [List.length_take]; omega
        have hcap : (k + 1 + 1) * 32 ≤ 140737488355328 := by omega
        have hc := ih (by omega) (kid t.kids (k + 1)) (by have := kid_lt hk1; omega)
        repeat' (first | (first | (simp only [go_sem, hb, hlen, hcap, hw1]) | (((first | refine sp1 ?_ ?_ | refine sp2 ?_ ?_ | refine sp3 ?_ ?_ | refine sp4 ?_ ?_ | refine sp5 ?_ ?_ | refine sp6 ?_ ?_ | refine sp7 ?_ ?_) <;> intro hb) <;> (simp only [go_sem, hb, hb, hlen, hcap, hw1])) | ((first | refine wm_done ?_ | refine wt_done ?_ | refine wg_run ?_ | refine fk ?_ ?_) <;> (simp only [go_sem, hb, hlen, hcap, hw1]))) | ((first | refine mx 6 [] follows ?_ | refine mx 5 [] follows ?_ | refine mx 4 [] follows ?_ | refine mx 3 [] follows ?_ | refine mx 2 [] follows ?_ | refine mx 1 [] follows ?_ | refine mx 0 [] follows ?_ | fail); (simp only [go_sem, hb, hlen, hcap, hw1])) | (first | refine cd (hc := hc) (hK := ?_) | refine cm (hc := hc) (hK := ?_) | refine ct (hc := hc) (hK := ?_)); (simp only [go_sem]))
        refine hG (k + 2) _ _ (by omega) (by omega) (hat [0, 1, 5] (hI := ⟨rfl, ?_⟩))
        rw [← tyR_take hk1]
        rfl
      · have hk1 : t.kids.take (k + 1) = t.kids := by have := of_decide_eq_false hb; exact List.take_of_length_le (by omega)
        have hlen : t.kids.length = k + 1 := by have := of_decide_eq_false hb; omega
        rw [hk1]
        (refine hR _ (ret_at [] (by (simp only [go_sem, hlen]); first | done | rfl) (by (simp only [go_sem, hlen]); first | done | rfl) ⟨?_, rfl⟩))
        rw [tyC_eq]
end Go.Proofs.Ytchcbfbnffhifaa
/- Owned trees: trees in own blocks, each block at one place only. -/
namespace Go.Proofs.Sh
open Go.RowKit

def leaf : C → Option (C × List Nat)
  | .sc (.slice none 0 0) => some (.sl [], [])
  | .sc v => some (.sc v, [])
  | .sl [] => some (.sl [], [])
  | _ => none
/-- a cell of an owned tree, as a tree; and its own blocks -/
def ow (h : List Blk) : Nat → C → Option (C × List Nat)
  | d + 1, .row s b n => match h[b]? with
    | some k => if k.st.isMut = true ∧ k.rows.length = n ∧ s = k.s ∧ rowsLen s k.rows = true then (match fzRows (ow h d) k.rows with
        | some (rows, ids) => some (.sl rows, b :: ids)
        | none => none)
      else none
    | none => none
  | _, c => leaf c
theorem leaf_ids {c c' : C} {ids : List Nat} (e : leaf c = some (c', ids)) : ids = [] := by
  unfold leaf at e
  split at e <;> simp at e <;> exact e.2
theorem ow_leaf {h : List Blk} {d : Nat} {c : C} (hc : ∀ s b n, c ≠ .row s b n) : ow h d c = leaf c := by
  cases c with
  | row s b n => exact absurd rfl (hc s b n)
  | _ => cases d <;> rfl
theorem leaf_ren {f : Nat → Nat} {c : C} {c' : C} {ids : List Nat} (e : leaf c = some (c', ids)) : c.ren f = c := by
  cases c <;> first | rfl | (cases e; done)

theorem ow_row {h : List Blk} {d s b n : Nat} {c' : C} {ids : List Nat} (e : ow h d (.row s b n) = some (c', ids)) :
    ∃ d' k R js, d = d' + 1 ∧ h[b]? = some k ∧ k.st.isMut = true ∧ k.rows.length = n ∧ s = k.s ∧ rowsLen s k.rows = true ∧ fzRows (ow h d') k.rows = some (R, js) ∧ c' = .sl R ∧ ids = b :: js := by
  cases d with
  | zero => cases e
  | succ d =>
  unfold ow at e
  split at e <;> try contradiction
  rename_i k hk
  split at e <;> try contradiction
  rename_i hc
  split at e <;> try contradiction
  rename_i R js hr
  simp only [Option.some.injEq, Prod.mk.injEq] at e
  exact ⟨_, k, R, js, rfl, hk, hc.1, hc.2.1, hc.2.2.1, hc.2.2.2, hr, e.1.symm, e.2.symm⟩
theorem ow_row_of {h : List Blk} {d s b n : Nat} {k : Blk} {R : List (List C)} {js : List Nat} (h1 : h[b]? = some k) (h2 : k.st.isMut = true) (h3 : k.rows.length = n) (h4 : s = k.s) (h5 : rowsLen s k.rows = true) (h6 : fzRows (ow h d) k.rows = some (R, js)) : ow h (d + 1) (.row s b n) = some (.sl R, b :: js) := by
  unfold ow
  simp only [h1]
  rw [if_pos ⟨h2, h3, h4, h5⟩, h6]

theorem fzL_congr {f g : C → Option (C × List Nat)} (hfg : ∀ c c' i, f c = some (c', i) → g c = some (c', i)) : ∀ {cs cs' ids}, fzL f cs = some (cs', ids) → fzL g cs = some (cs', ids)
  | [], cs', ids, e => e
  | c :: cs, cs', ids, e => by
    simp only [fzL] at e ⊢
    split at e
    · rename_i c1 i c2 j h1 h2
      rw [hfg _ _ _ h1, fzL_congr hfg h2]; exact e
    · cases e
theorem fzRows_congr {f g : C → Option (C × List Nat)} (hfg : ∀ c c' i, f c = some (c', i) → g c = some (c', i)) : ∀ {rs rs' ids}, fzRows f rs = some (rs', ids) → fzRows g rs = some (rs', ids)
  | [], rs', ids, e => e
  | r :: rs, rs', ids, e => by
    simp only [fzRows] at e ⊢
    split at e
    · rename_i c1 i c2 j h1 h2
      rw [fzL_congr hfg h1, fzRows_congr hfg h2]; exact e
    · cases e

/-- deeper looks see the same -/
theorem ow_mono {h : List Blk} : ∀ {d : Nat} {c c' : C} {ids : List Nat}, ow h d c = some (c', ids) → ow h (d + 1) c = some (c', ids) := by
  intro d
  induction d with
  | zero =>
    intro c c' ids e
    cases c with
    | row s b n => obtain ⟨d', k, R, js, he, _⟩ := ow_row e; cases he
    | _ => rw [ow_leaf (by simp)] at e ⊢; exact e
  | succ d ih =>
    intro c c' ids e
    cases c with
    | row s b n =>
      obtain ⟨d', k, R, js, he, h1, h2, h3, h4, h5, h6, rfl, rfl⟩ := ow_row e
      cases he
      exact ow_row_of h1 h2 h3 h4 h5 (fzRows_congr (fun _ _ _ => ih) h6)
    | _ => rw [ow_leaf (by simp)] at e ⊢; exact e
theorem ow_le {h : List Blk} {d d' : Nat} {c c' : C} {ids : List Nat} (hd : d ≤ d') (e : ow h d c = some (c', ids)) : ow h d' c = some (c', ids) := by
  induction hd with
  | refl => exact e
  | step _ ih => exact ow_mono ih

theorem fzL_congrM {f g : C → Option (C × List Nat)} {ks : List Nat} (hfg : ∀ c c' i, f c = some (c', i) → (∀ b ∈ i, b ∈ ks) → g c = some (c', i)) : ∀ {cs cs' ids}, fzL f cs = some (cs', ids) → (∀ b ∈ ids, b ∈ ks) → fzL g cs = some (cs', ids)
  | [], cs', ids, e, _ => e
  | c :: cs, cs', ids, e, hk => by
    simp only [fzL] at e ⊢
    split at e
    · rename_i c1 i c2 j h1 h2
      simp only [Option.some.injEq, Prod.mk.injEq] at e
      obtain ⟨rfl, rfl⟩ := e
      rw [hfg _ _ _ h1 (fun b hb => hk b (by simp [hb])), fzL_congrM hfg h2 (fun b hb => hk b (by simp [hb]))]
    · cases e
theorem fzRows_congrM {f g : C → Option (C × List Nat)} {ks : List Nat} (hfg : ∀ c c' i, f c = some (c', i) → (∀ b ∈ i, b ∈ ks) → g c = some (c', i)) : ∀ {rs rs' ids}, fzRows f rs = some (rs', ids) → (∀ b ∈ ids, b ∈ ks) → fzRows g rs = some (rs', ids)
  | [], rs', ids, e, _ => e
  | r :: rs, rs', ids, e, hk => by
    simp only [fzRows] at e ⊢
    split at e
    · rename_i c1 i c2 j h1 h2
      simp only [Option.some.injEq, Prod.mk.injEq] at e
      obtain ⟨rfl, rfl⟩ := e
      rw [fzL_congrM hfg h1 (fun b hb => hk b (by simp [hb])), fzRows_congrM hfg h2 (fun b hb => hk b (by simp [hb]))]
    · cases e

/-- what is not of the tree does not count -/
theorem ow_frame {h h' : List Blk} : ∀ {d : Nat} {c c' : C} {ids : List Nat}, ow h d c = some (c', ids) → (∀ b ∈ ids, h'[b]? = h[b]?) → ow h' d c = some (c', ids) := by
  intro d
  induction d with
  | zero =>
    intro c c' ids e _
    cases c with
    | row s b n => obtain ⟨d', k, R, js, he, _⟩ := ow_row e; cases he
    | _ => rw [ow_leaf (by simp)] at e ⊢; exact e
  | succ d ih =>
    intro c c' ids e hf
    cases c with
    | row s b n =>
      obtain ⟨d', k, R, js, he, h1, h2, h3, h4, h5, h6, rfl, rfl⟩ := ow_row e
      cases he
      exact ow_row_of (by rw [hf b (by simp)]; exact h1) h2 h3 h4 h5 (fzRows_congrM (ks := js) (fun _ _ _ e hk => ih e (fun b hb => hf b (by simp [hk b hb]))) h6 (fun _ h => h))
    | _ => rw [ow_leaf (by simp)] at e ⊢; exact e
theorem owL_frame {h h' : List Blk} {d : Nat} {cs cs' : List C} {ids : List Nat} (e : fzL (ow h d) cs = some (cs', ids)) (hf : ∀ b ∈ ids, h'[b]? = h[b]?) : fzL (ow h' d) cs = some (cs', ids) :=
  fzL_congrM (ks := ids) (fun _ _ _ e hk => ow_frame e (fun b hb => hf b (hk b hb))) e (fun _ h => h)
theorem owR_frame {h h' : List Blk} {d : Nat} {cs cs' : List (List C)} {ids : List Nat} (e : fzRows (ow h d) cs = some (cs', ids)) (hf : ∀ b ∈ ids, h'[b]? = h[b]?) : fzRows (ow h' d) cs = some (cs', ids) :=
  fzRows_congrM (ks := ids) (fun _ _ _ e hk => ow_frame e (fun b hb => hf b (hk b hb))) e (fun _ h => h)
theorem owL_le {h : List Blk} {d d' : Nat} {cs cs' : List C} {ids : List Nat} (hd : d ≤ d') (e : fzL (ow h d) cs = some (cs', ids)) : fzL (ow h d') cs = some (cs', ids) := fzL_congr (fun _ _ _ => ow_le hd) e
theorem owR_le {h : List Blk} {d d' : Nat} {cs cs' : List (List C)} {ids : List Nat} (hd : d ≤ d') (e : fzRows (ow h d) cs = some (cs', ids)) : fzRows (ow h d') cs = some (cs', ids) := fzRows_congr (fun _ _ _ => ow_le hd) e

/-- all its blocks are there, and may be written -/
theorem fzL_all {Q : Nat → Prop} {f : C → Option (C × List Nat)} (hf : ∀ c c' i, f c = some (c', i) → ∀ b ∈ i, Q b) : ∀ {cs cs' ids}, fzL f cs = some (cs', ids) → ∀ b ∈ ids, Q b
  | [], cs', ids, e => by simp only [fzL, Option.some.injEq, Prod.mk.injEq] at e; rw [← e.2]; simp
  | c :: cs, cs', ids, e => by
    simp only [fzL] at e
    split at e
    · rename_i c1 i c2 j h1 h2
      simp only [Option.some.injEq, Prod.mk.injEq] at e
      obtain ⟨rfl, rfl⟩ := e
      intro b hb
      rcases List.mem_append.1 hb with hb | hb
      · exact hf _ _ _ h1 b hb
      · exact fzL_all hf h2 b hb
    · cases e
theorem fzRows_all {Q : Nat → Prop} {f : C → Option (C × List Nat)} (hf : ∀ c c' i, f c = some (c', i) → ∀ b ∈ i, Q b) : ∀ {cs cs' ids}, fzRows f cs = some (cs', ids) → ∀ b ∈ ids, Q b
  | [], cs', ids, e => by simp only [fzRows, Option.some.injEq, Prod.mk.injEq] at e; rw [← e.2]; simp
  | c :: cs, cs', ids, e => by
    simp only [fzRows] at e
    split at e
    · rename_i c1 i c2 j h1 h2
      simp only [Option.some.injEq, Prod.mk.injEq] at e
      obtain ⟨rfl, rfl⟩ := e
      intro b hb
      rcases List.mem_append.1 hb with hb | hb
      · exact fzL_all hf h1 b hb
      · exact fzRows_all hf h2 b hb
    · cases e
def MutAt (h : List Blk) (b : Nat) : Prop := ∃ k, h[b]? = some k ∧ k.st.isMut = true
theorem ow_mut {h : List Blk} : ∀ {d : Nat} {c c' : C} {ids : List Nat}, ow h d c = some (c', ids) → ∀ b ∈ ids, MutAt h b := by
  intro d
  induction d with
  | zero =>
    intro c c' ids e b hb
    cases c with
    | row s b n => obtain ⟨d', k, R, js, he, _⟩ := ow_row e; cases he
    | _ => rw [ow_leaf (by simp)] at e; rw [leaf_ids e] at hb; simp at hb
  | succ d ih =>
    intro c c' ids e b hb
    cases c with
    | row s b' n =>
      obtain ⟨d', k, R, js, he, h1, h2, h3, h4, h5, h6, rfl, rfl⟩ := ow_row e
      cases he
      rcases List.mem_cons.1 hb with rfl | hb
      · exact ⟨k, h1, h2⟩
      · exact fzRows_all (Q := MutAt h) (fun _ _ _ e => ih e) h6 b hb
    | _ => rw [ow_leaf (by simp)] at e; rw [leaf_ids e] at hb; simp at hb
theorem owL_mut {h : List Blk} {d : Nat} {cs cs' : List C} {ids : List Nat} (e : fzL (ow h d) cs = some (cs', ids)) : ∀ b ∈ ids, MutAt h b := fzL_all (Q := MutAt h) (fun _ _ _ e => ow_mut e) e
theorem owR_mut {h : List Blk} {d : Nat} {cs cs' : List (List C)} {ids : List Nat} (e : fzRows (ow h d) cs = some (cs', ids)) : ∀ b ∈ ids, MutAt h b := fzRows_all (Q := MutAt h) (fun _ _ _ e => ow_mut e) e
theorem MutAt.lt {h : List Blk} {b : Nat} (e : MutAt h b) : b < h.length := by obtain ⟨k, hk, _⟩ := e; exact (List.getElem?_eq_some_iff.1 hk).1

/-! ### rows one by one -/
theorem fzRows_app {f : C → Option (C × List Nat)} : ∀ {r1 r2 R1 R2 : List (List C)} {i j : List Nat}, fzRows f r1 = some (R1, i) → fzRows f r2 = some (R2, j) → fzRows f (r1 ++ r2) = some (R1 ++ R2, i ++ j)
  | [], r2, R1, R2, i, j, h1, h2 => by
    simp only [fzRows, Option.some.injEq, Prod.mk.injEq] at h1
    obtain ⟨rfl, rfl⟩ := h1
    simpa using h2
  | r :: r1, r2, R1, R2, i, j, h1, h2 => by
    simp only [fzRows] at h1
    split at h1
    · rename_i c1 i1 c2 j1 e1 e2
      simp only [Option.some.injEq, Prod.mk.injEq] at h1
      obtain ⟨rfl, rfl⟩ := h1
      simp only [List.cons_append, fzRows, e1, fzRows_app e2 h2, List.append_assoc]
    · cases h1
theorem fzRows_split {f : C → Option (C × List Nat)} : ∀ {i : Nat} {rows R : List (List C)} {ids : List Nat} {r : List C}, fzRows f rows = some (R, ids) → rows[i]? = some r →
    ∃ r' pre is post, R[i]? = some r' ∧ fzL f r = some (r', is) ∧ ids = pre ++ (is ++ post) ∧ fzRows f (rows.take i) = some (R.take i, pre) ∧ fzRows f (rows.drop (i + 1)) = some (R.drop (i + 1), post)
  | i, [], R, ids, r, h, hr => by simp at hr
  | 0, r0 :: rows, R, ids, r, h, hr => by
    simp only [List.getElem?_cons_zero, Option.some.injEq] at hr
    subst hr
    simp only [fzRows] at h
    split at h
    · rename_i c1 i1 c2 j1 e1 e2
      simp only [Option.some.injEq, Prod.mk.injEq] at h
      obtain ⟨rfl, rfl⟩ := h
      exact ⟨c1, [], i1, j1, rfl, e1, rfl, rfl, by simpa using e2⟩
    · cases h
  | i + 1, r0 :: rows, R, ids, r, h, hr => by
    simp only [List.getElem?_cons_succ] at hr
    simp only [fzRows] at h
    split at h
    · rename_i c1 i1 c2 j1 e1 e2
      simp only [Option.some.injEq, Prod.mk.injEq] at h
      obtain ⟨rfl, rfl⟩ := h
      obtain ⟨r', pre, is, post, q1, q2, q3, q4, q5⟩ := fzRows_split e2 hr
      exact ⟨r', i1 ++ pre, is, post, by simpa using q1, q2, by rw [q3, List.append_assoc], by simp only [List.take_succ_cons, fzRows, e1, q4], by simpa using q5⟩
    · cases h
theorem set_split {α : Type} : ∀ {l : List α} {i : Nat} {x : α}, i < l.length → l.set i x = l.take i ++ (x :: l.drop (i + 1))
  | [], i, x, h => by simp at h
  | a :: l, 0, x, h => by simp
  | a :: l, i + 1, x, h => by simp [set_split (l := l) (i := i) (x := x) (by simpa using h)]
/-- one row is changed -/
theorem fzRows_set {g : C → Option (C × List Nat)} {i : Nat} {rows R : List (List C)} {pre is post : List Nat} {r r' : List C} (hi : i < rows.length) (hR : R.length = rows.length) (h1 : fzRows g (rows.take i) = some (R.take i, pre)) (h2 : fzL g r = some (r', is)) (h3 : fzRows g (rows.drop (i + 1)) = some (R.drop (i + 1), post)) :
    fzRows g (rows.set i r) = some (R.set i r', pre ++ (is ++ post)) := by
  rw [set_split hi, set_split (by omega)]
  refine fzRows_app h1 ?_
  simp only [fzRows, h2, h3]
theorem fzRows_len {f : C → Option (C × List Nat)} {rows R : List (List C)} {ids : List Nat} (h : fzRows f rows = some (R, ids)) : R.length = rows.length := (fzRows_get h).1
theorem fzL_len {f : C → Option (C × List Nat)} {cs cs' : List C} {ids : List Nat} (h : fzL f cs = some (cs', ids)) : cs'.length = cs.length := (fzL_get h).1

/-! ### by other numbers -/
theorem renL_map (f : Nat → Nat) : ∀ cs : List C, C.renL f cs = cs.map (C.ren f)
  | [] => rfl
  | c :: cs => by simp [C.renL, renL_map f cs]
theorem renA_map (f : Nat → Nat) (cs : List C) : renA f cs = cs.map (C.ren f) := by
  unfold renA
  split
  · rename_i ht
    symm
    calc cs.map (C.ren f) = cs.map id := List.map_congr_left fun c hc => C.ren_tree (List.all_eq_true.1 ht c hc)
      _ = cs := List.map_id _
  · exact renL_map f cs
theorem renRows_map (f : Nat → Nat) (rows : List (List C)) : renRows f rows = rows.map (List.map (C.ren f)) := by
  unfold renRows
  split
  · rename_i ht
    symm
    calc rows.map (List.map (C.ren f)) = rows.map id := List.map_congr_left fun r hr => by
          rw [← renA_map]; unfold renA; rw [if_pos (List.all_eq_true.1 ht r hr)]; rfl
      _ = rows := List.map_id _
  · exact List.map_congr_left fun r _ => renA_map f r
theorem fzL_ren {g : C → Option (C × List Nat)} {k : C → Option (C × List Nat)} {f : Nat → Nat} {ks : List Nat} (hg : ∀ c c' i, g c = some (c', i) → (∀ b ∈ i, b ∈ ks) → k (c.ren f) = some (c', i.map f)) : ∀ {cs cs' ids}, fzL g cs = some (cs', ids) → (∀ b ∈ ids, b ∈ ks) → fzL k (cs.map (C.ren f)) = some (cs', ids.map f)
  | [], cs', ids, e, _ => by
    simp only [fzL, Option.some.injEq, Prod.mk.injEq] at e
    obtain ⟨rfl, rfl⟩ := e
    rfl
  | c :: cs, cs', ids, e, hk => by
    simp only [fzL] at e
    split at e
    · rename_i c1 i c2 j h1 h2
      simp only [Option.some.injEq, Prod.mk.injEq] at e
      obtain ⟨rfl, rfl⟩ := e
      simp only [List.map_cons, fzL, hg _ _ _ h1 (fun b hb => hk b (by simp [hb])), fzL_ren hg h2 (fun b hb => hk b (by simp [hb])), List.map_append]
    · cases e
theorem fzRows_ren {g : C → Option (C × List Nat)} {k : C → Option (C × List Nat)} {f : Nat → Nat} {ks : List Nat} (hg : ∀ c c' i, g c = some (c', i) → (∀ b ∈ i, b ∈ ks) → k (c.ren f) = some (c', i.map f)) : ∀ {cs cs' ids}, fzRows g cs = some (cs', ids) → (∀ b ∈ ids, b ∈ ks) → fzRows k (cs.map (List.map (C.ren f))) = some (cs', ids.map f)
  | [], cs', ids, e, _ => by
    simp only [fzRows, Option.some.injEq, Prod.mk.injEq] at e
    obtain ⟨rfl, rfl⟩ := e
    rfl
  | c :: cs, cs', ids, e, hk => by
    simp only [fzRows] at e
    split at e
    · rename_i c1 i c2 j h1 h2
      simp only [Option.some.injEq, Prod.mk.injEq] at e
      obtain ⟨rfl, rfl⟩ := e
      simp only [List.map_cons, fzRows, fzL_ren hg h1 (fun b hb => hk b (by simp [hb])), fzRows_ren hg h2 (fun b hb => hk b (by simp [hb])), List.map_append]
    · cases e
theorem rowsLen_map {s : Nat} {f : Nat → Nat} : ∀ {rows : List (List C)}, rowsLen s rows = true → rowsLen s (rows.map (List.map (C.ren f))) = true
  | [], _ => rfl
  | r :: rows, h => by
    simp only [rowsLen_cons, Bool.and_eq_true] at h
    simp only [List.map_cons, rowsLen_cons, List.length_map, Bool.and_eq_true]
    exact ⟨h.1, rowsLen_map h.2⟩
/-- an owned tree by other numbers -/
theorem ow_ren {h h' : List Blk} {f : Nat → Nat} : ∀ {d : Nat} {c c' : C} {ids : List Nat}, ow h d c = some (c', ids) → (∀ b ∈ ids, ∀ k, h[b]? = some k → h'[f b]? = some (k.ren f)) → ow h' d (c.ren f) = some (c', ids.map f) := by
  intro d
  induction d with
  | zero =>
    intro c c' ids e _
    cases c with
    | row s b n => obtain ⟨d', k, R, js, he, _⟩ := ow_row e; cases he
    | _ => rw [ow_leaf (by simp)] at e; rw [leaf_ren e, leaf_ids e, ow_leaf (by simp), e, leaf_ids e]; rfl
  | succ d ih =>
    intro c c' ids e hf
    cases c with
    | row s b n =>
      obtain ⟨d', k, R, js, he, h1, h2, h3, h4, h5, h6, rfl, rfl⟩ := ow_row e
      cases he
      refine ow_row_of (hf b (by simp) k h1) h2 (by simp [Blk.ren, renRows_map, h3]) h4 (by simp only [Blk.ren, renRows_map]; exact rowsLen_map h5) ?_
      simp only [Blk.ren, renRows_map]
      exact fzRows_ren (ks := js) (fun _ _ _ e hk => ih e (fun b hb => hf b (by simp [hk b hb]))) h6 (fun _ h => h)
    | _ => rw [ow_leaf (by simp)] at e; rw [leaf_ren e, leaf_ids e, ow_leaf (by simp), e, leaf_ids e]; rfl
theorem owL_ren {h h' : List Blk} {f : Nat → Nat} {d : Nat} {cs cs' : List C} {ids : List Nat} (e : fzL (ow h d) cs = some (cs', ids)) (hf : ∀ b ∈ ids, ∀ k, h[b]? = some k → h'[f b]? = some (k.ren f)) : fzL (ow h' d) (cs.map (C.ren f)) = some (cs', ids.map f) :=
  fzL_ren (ks := ids) (fun _ _ _ e hk => ow_ren e (fun b hb => hf b (hk b hb))) e (fun _ h => h)
end Go.Proofs.Sh
/- Owned trees: lent to a call, handed back by one, and kept beside. -/
namespace Go.Proofs.Sh
open Go.RowKit

/-! ### seen as frozen ones -/
theorem leaf_cases {c c' : C} {ids : List Nat} (e : leaf c = some (c', ids)) : ids = [] ∧ ((c = .sc (.slice none 0 0) ∧ c' = .sl []) ∨ (∃ v, c = .sc v ∧ v ≠ .slice none 0 0 ∧ c' = .sc v) ∨ (c = .sl [] ∧ c' = .sl [])) := by
  unfold leaf at e
  split at e
  · simp only [Option.some.injEq, Prod.mk.injEq] at e; exact ⟨e.2.symm, .inl ⟨rfl, e.1.symm⟩⟩
  · rename_i v hv; simp only [Option.some.injEq, Prod.mk.injEq] at e; exact ⟨e.2.symm, .inr (.inl ⟨v, rfl, fun h => hv h, e.1.symm⟩)⟩
  · simp only [Option.some.injEq, Prod.mk.injEq] at e; exact ⟨e.2.symm, .inr (.inr ⟨rfl, e.1.symm⟩)⟩
  · cases e
theorem leaf_fz {h : List Blk} {d : Nat} {c c' : C} {ids : List Nat} (e : leaf c = some (c', ids)) : fz h d c = some (c', ids) := by
  obtain ⟨rfl, ⟨rfl, rfl⟩ | ⟨v, rfl, hv, rfl⟩ | ⟨rfl, rfl⟩⟩ := leaf_cases e
  · cases d <;> rfl
  · rw [fz]; exact fun e => hv e
  · cases d <;> rfl
theorem fz_tree {h : List Blk} {d : Nat} {c : C} {c' : C} {ids : List Nat} (ht : c.tree = true) (e : ow h d c = some (c', ids)) : c' = c ∧ ids = [] := by
  cases c with
  | row s b n => cases ht
  | _ =>
    rw [ow_leaf (by simp)] at e
    obtain ⟨rfl, ⟨h1, h2⟩ | ⟨v, h1, hv, h2⟩ | ⟨h1, h2⟩⟩ := leaf_cases e
    · rw [h1] at ht; cases ht
    · exact ⟨by rw [h1, h2], rfl⟩
    · exact ⟨by rw [h1, h2], rfl⟩
theorem owL_tree {h : List Blk} {d : Nat} : ∀ {cs cs' : List C} {ids : List Nat}, treeL cs = true → fzL (ow h d) cs = some (cs', ids) → cs' = cs ∧ ids = []
  | [], cs', ids, _, e => by simp only [fzL, Option.some.injEq, Prod.mk.injEq] at e; exact ⟨e.1.symm, e.2.symm⟩
  | c :: cs, cs', ids, ht, e => by
    simp only [treeL, List.all_cons, Bool.and_eq_true] at ht
    simp only [fzL] at e
    split at e
    · rename_i c1 i c2 j h1 h2
      simp only [Option.some.injEq, Prod.mk.injEq] at e
      obtain ⟨rfl, rfl⟩ := fz_tree ht.1 h1
      obtain ⟨rfl, rfl⟩ := owL_tree ht.2 h2
      exact ⟨e.1.symm, by rw [← e.2]; rfl⟩
    · cases e
theorem owR_tree {h : List Blk} {d : Nat} : ∀ {cs cs' : List (List C)} {ids : List Nat}, treeRows cs = true → fzRows (ow h d) cs = some (cs', ids) → cs' = cs ∧ ids = []
  | [], cs', ids, _, e => by simp only [fzRows, Option.some.injEq, Prod.mk.injEq] at e; exact ⟨e.1.symm, e.2.symm⟩
  | c :: cs, cs', ids, ht, e => by
    simp only [treeRows, List.all_cons, Bool.and_eq_true] at ht
    simp only [fzRows] at e
    split at e
    · rename_i c1 i c2 j h1 h2
      simp only [Option.some.injEq, Prod.mk.injEq] at e
      obtain ⟨rfl, rfl⟩ := owL_tree ht.1 h1
      obtain ⟨rfl, rfl⟩ := owR_tree ht.2 h2
      exact ⟨e.1.symm, by rw [← e.2]; rfl⟩
    · cases e
theorem ow_fz {h : List Blk} : ∀ {d : Nat} {c c' : C} {ids : List Nat}, ow h d c = some (c', ids) → fz h d c = some (c', ids) := by
  intro d
  induction d with
  | zero =>
    intro c c' ids e
    cases c with
    | row s b n => obtain ⟨d', k, R, js, he, _⟩ := ow_row e; cases he
    | _ => rw [ow_leaf (by simp)] at e; exact leaf_fz e
  | succ d ih =>
    intro c c' ids e
    cases c with
    | row s b n =>
      obtain ⟨d', k, R, js, he, h1, h2, h3, h4, h5, h6, rfl, rfl⟩ := ow_row e
      cases he
      unfold fz
      simp only [h1]
      rw [if_pos ⟨known_of_mut h2, h3⟩]
      split
      · rename_i ht
        obtain ⟨rfl, rfl⟩ := owR_tree ht h6
        rfl
      · rw [fzRows_congr (fun _ _ _ => ih) h6]
    | _ => rw [ow_leaf (by simp)] at e; exact leaf_fz e
theorem owL_fz {h : List Blk} {d : Nat} {cs cs' : List C} {ids : List Nat} (e : fzL (ow h d) cs = some (cs', ids)) : fzL (fz h d) cs = some (cs', ids) := fzL_congr (fun _ _ _ => ow_fz) e

/-- arguments as trees, and their own blocks -/
inductive Lent (h : List Blk) : AV → AV → List Nat → Prop
  | same {v : AV} (hv : (match v with | .one c => c.tree | .agg cs => treeL cs | .tup _ => false) = true) : Lent h v v []
  | fn {g : FuncId} : Lent h (.one (.fn g [])) (.one (.fn g [])) []
  | one {d : Nat} {c c' : C} {ids : List Nat} (e : ow h d c = some (c', ids)) : Lent h (.one c) (.one c') ids
  | agg {d : Nat} {cs cs' : List C} {ids : List Nat} (e : fzL (ow h d) cs = some (cs', ids)) : Lent h (.agg cs) (.agg cs') ids
inductive Lents (h : List Blk) : List AV → List AV → List Nat → Prop
  | nil : Lents h [] [] []
  | cons {v v' : AV} {vs vs' : List AV} {i j : List Nat} (a : Lent h v v' i) (b : Lents h vs vs' j) : Lents h (v :: vs) (v' :: vs') (i ++ j)

section
variable {X μ : List Nat} {h : List Blk} {w : World}
theorem fzL_rep (hS : Sim X μ h w) {L' : List Nat} (hL : ∀ x, x ∈ L' → x ∈ X ++ alive μ h) {d : Nat} : ∀ {cs cs' : List C} {ids : List Nat} {us : List Value}, fzL (fz h d) cs = some (cs', ids) → (∀ b ∈ ids, ∀ g, μ[b]? = some g → g ∉ L') → C.repl (X ++ alive μ h) μ w cs us → C.repl L' [] w cs' us
  | [], cs', ids, us, e, _, hr => by
    simp only [fzL, Option.some.injEq, Prod.mk.injEq] at e
    rw [← e.1]; simpa [C.repl] using hr
  | c :: cs, cs', ids, us, e, hi, hr => by
    simp only [fzL] at e
    split at e
    · rename_i c1 i c2 j h1 h2
      simp only [Option.some.injEq, Prod.mk.injEq] at e
      obtain ⟨rfl, rfl⟩ := e
      simp only [C.repl] at hr ⊢
      obtain ⟨u, us', rfl, r1, r2⟩ := hr
      exact ⟨u, us', rfl, fz_sound hS hL d _ _ _ u h1 (fun b hb => hi b (by simp [hb])) r1, fzL_rep hS hL h2 (fun b hb => hi b (by simp [hb])) r2⟩
    · cases e
theorem Lent.rep (hS : Sim X μ h w) {L' : List Nat} (hL : ∀ x, x ∈ L' → x ∈ X ++ alive μ h) {v v' : AV} {ids : List Nat} {u : Value} (e : Lent h v v' ids) (hi : ∀ b ∈ ids, ∀ g, μ[b]? = some g → g ∉ L') (hr : AV.rep (X ++ alive μ h) μ w v u) : AV.rep L' [] w v' u := by
  cases e with
  | same hv =>
    cases v with
    | one c => simp only [AV.rep] at hr ⊢; exact C.rep.sub hL (C.rep_tree hv hr)
    | agg cs =>
      simp only [AV.rep] at hr ⊢
      obtain ⟨arr, rfl, h2⟩ := hr
      exact ⟨arr, rfl, C.repl.carry (K := []) ⟨Keep.refl _ _, fun _ _ _ => by simp, fun x _ hx hm => hx (hL x hm), fun _ _ h => h⟩ (C.repl_tree hv h2)⟩
    | tup _ => cases hv
  | fn =>
    simp only [AV.rep, C.rep, C.repl] at hr ⊢
    exact hr
  | one e => simp only [AV.rep] at hr ⊢; exact fz_sound hS hL _ _ _ _ u (ow_fz e) hi hr
  | agg e =>
    simp only [AV.rep] at hr ⊢
    obtain ⟨arr, rfl, h2⟩ := hr
    exact ⟨arr, rfl, fzL_rep hS hL (owL_fz e) hi h2⟩
theorem Lents.rep (hS : Sim X μ h w) {L' : List Nat} (hL : ∀ x, x ∈ L' → x ∈ X ++ alive μ h) : ∀ {vs vs' : List AV} {ids : List Nat} {us : List Value}, Lents h vs vs' ids → (∀ b ∈ ids, ∀ g, μ[b]? = some g → g ∉ L') → AV.repl (X ++ alive μ h) μ w vs us → AV.repl L' [] w vs' us
  | [], _, _, us, e, _, hr => by cases e; simpa [AV.repl] using hr
  | v :: vs, _, _, us, e, hi, hr => by
    cases e with
    | cons a b =>
      simp only [AV.repl] at hr ⊢
      obtain ⟨u, us', rfl, r1, r2⟩ := hr
      exact ⟨u, us', rfl, a.rep hS hL (fun b hb => hi b (by simp [hb])) r1, Lents.rep hS hL b (fun b hb => hi b (by simp [hb])) r2⟩
end

/-! ### what names no memory but own blocks -/
def C.flat : C → Bool
  | .top => true
  | .sc _ => true
  | .sl [] => true
  | .row .. => true
  | .ptr .. => true
  | _ => false
mutual
def AV.flat : AV → Bool
  | .one c => c.flat
  | .agg cs => cs.all C.flat
  | .tup vs => AV.flats vs
def AV.flats : List AV → Bool
  | [] => true
  | v :: vs => v.flat && AV.flats vs
end
def Blk.flat (k : Blk) : Bool := k.st.isMut && k.rows.all (fun r => r.all C.flat)
section
variable {L L' μ : List Nat} {w : World}
theorem C.rep_flat {c : C} {u : Value} (hf : c.flat = true) (h : C.rep L μ w c u) : C.rep L' μ w c u := by
  cases c with
  | sl rows =>
    cases rows with
    | nil => simp only [C.rep] at h ⊢; obtain ⟨p, cap, h1, h2, h3, _⟩ := h; exact ⟨p, cap, h1, h2, h3, .inl trivial⟩
    | cons r rows => cases hf
  | cur cs j => cases hf
  | fn f caps => cases hf
  | _ => simpa only [C.rep] using h
theorem C.repl_flat : ∀ {cs : List C} {us : List Value}, cs.all C.flat = true → C.repl L μ w cs us → C.repl L' μ w cs us
  | [], us, _, h => by simpa [C.repl] using h
  | c :: cs, us, hf, h => by
    simp only [List.all_cons, Bool.and_eq_true] at hf
    simp only [C.repl] at h ⊢
    obtain ⟨u, us', rfl, r1, r2⟩ := h
    exact ⟨u, us', rfl, C.rep_flat hf.1 r1, C.repl_flat hf.2 r2⟩
mutual
theorem AV.rep_flat : ∀ {v : AV} {u : Value}, v.flat = true → AV.rep L μ w v u → AV.rep L' μ w v u
  | .one c, u, hf, h => by simp only [AV.rep] at h ⊢; exact C.rep_flat hf h
  | .agg cs, u, hf, h => by
    simp only [AV.rep] at h ⊢
    obtain ⟨arr, rfl, h2⟩ := h
    exact ⟨arr, rfl, C.repl_flat hf h2⟩
  | .tup vs, u, hf, h => by
    simp only [AV.rep] at h ⊢
    obtain ⟨arr, rfl, h2⟩ := h
    exact ⟨arr, rfl, AV.repl_flat hf h2⟩
theorem AV.repl_flat : ∀ {vs : List AV} {us : List Value}, AV.flats vs = true → AV.repl L μ w vs us → AV.repl L' μ w vs us
  | [], us, _, h => by simpa [AV.repl] using h
  | v :: vs, us, hf, h => by
    simp only [AV.flats, Bool.and_eq_true] at hf
    simp only [AV.repl] at h ⊢
    obtain ⟨u, us', rfl, r1, r2⟩ := h
    exact ⟨u, us', rfl, AV.rep_flat hf.1 r1, AV.repl_flat hf.2 r2⟩
end
theorem Laid.flat_ {cur : Array Value} {s : Nat} {rows : List (List C)} (hf : rows.all (fun r => r.all C.flat) = true) (h : Laid L μ w cur s rows) : Laid L' μ w cur s rows := by
  intro i r hi
  obtain ⟨h1, h2⟩ := h i r hi
  refine ⟨h1, fun j c hj => ?_⟩
  obtain ⟨u, hu, hv⟩ := h2 j c hj
  have := List.all_eq_true.1 (List.all_eq_true.1 hf r (List.mem_of_getElem? hi)) c (List.mem_of_getElem? hj)
  exact ⟨u, hu, C.rep_flat this hv⟩
end

theorem back_nil (n b : Nat) : back n [] b = n + b := by simp [back]

/-- A call that reads trees, of which some are one's own, and yields nothing else than scalars and own blocks. -/
theorem acalls_lend {P : Program} {f : FuncId} {args args' : List AV} {h : List Blk} {ids : List Nat} {K : AV → List Blk → Prop} (hz : Lents h args args' ids) (hc : ACl P f args' [] K) (hfl : ∀ r H', K r H' → r.flat = true ∧ H'.all Blk.flat = true) :
    ACalls P f args h [] (fun r h' => ∃ r0 H', K r0 H' ∧ r = r0.ren (back h.length []) ∧ h' = h ++ H'.map (Blk.ren (back h.length []))) := by
  obtain ⟨⟨hfn, hcall⟩⟩ := hc
  refine ⟨hfn, fun X μ w vs hS hr => ?_⟩
  let X2 := (X ++ alive μ h).filter fun g => ids.all fun b => μ[b]? != some g
  have hX2 : ∀ x ∈ X2, x ∈ X ++ alive μ h := fun x hx => (List.mem_filter.1 hx).1
  have hlt : ∀ x ∈ X ++ alive μ h, x < w.heap.size := fun x hx => by
    rcases List.mem_append.1 hx with hx | hx
    · exact hS.xlt x hx
    · exact hS.aliveLt hx
  have hS2 : Sim X2 [] [] w := ⟨rfl, fun _ h => by simp at h, fun x hx => hlt x (hX2 x hx), fun i b g h => by simp at h, fun i j b b' g _ h => by simp at h, fun i b g h => by simp at h⟩
  have hr2 : AV.repl (X2 ++ alive [] []) [] w args' vs.toList := by
    have : X2 ++ alive [] [] = X2 := by simp [alive]
    rw [this]
    refine hz.rep hS hX2 (fun b hb g hg hx => ?_) hr
    have := List.all_eq_true.1 (List.mem_filter.1 hx).2 b hb
    simp [hg] at this
  refine (hcall X2 [] w vs hS2 hr2).mono fun e w' ⟨r0, H', μ', v, he, hk, s1, s2, s3⟩ => ?_
  obtain ⟨f1, f2⟩ := hfl r0 H' hk
  have hK : Keep [] w w' := s2.keep
  have hmut : ∀ (i : Nat) (k : Blk), H'[i]? = some k → k.st.isMut = true ∧ k.rows.all (fun r => r.all C.flat) = true := fun i k hi => by
    have := List.all_eq_true.1 f2 k (List.mem_of_getElem? hi)
    simpa [Blk.flat] using this
  have hnew : ∀ (i : Nat) (k : Blk) (g : Nat), H'[i]? = some k → μ'[i]? = some g → w.heap.size ≤ g := fun i k g hi hg => by
    refine Nat.le_of_not_lt fun hlt => ?_
    have := s2.old g (mem_alive.2 ⟨i, k, hg, hi, (hmut i k hi).1⟩) hlt
    simp [alive] at this
  have hlen := hS.len
  have hmap : ∀ (b g : Nat), μ'[b]? = some g → (μ ++ μ')[back h.length [] b]? = some g := fun b g hb => by
    rw [back_nil, List.getElem?_append_right (by omega), ← hb]; congr 1; omega
  have hget : ∀ (x : Nat) (k : Blk), (h ++ H'.map (Blk.ren (back h.length [])))[x]? = some k → (x < h.length ∧ h[x]? = some k ∧ ∀ g, (μ ++ μ')[x]? = some g → μ[x]? = some g) ∨ ∃ i k0, x = h.length + i ∧ H'[i]? = some k0 ∧ k = k0.ren (back h.length []) ∧ ∀ g, (μ ++ μ')[x]? = some g → μ'[i]? = some g := fun x k hx => by
    rcases Nat.lt_or_ge x h.length with hl | hl
    · rw [List.getElem?_append_left hl] at hx
      exact .inl ⟨hl, hx, fun g hg => by rwa [List.getElem?_append_left (by omega)] at hg⟩
    · rw [List.getElem?_append_right hl, List.getElem?_map, Option.map_eq_some_iff] at hx
      obtain ⟨k0, h1, rfl⟩ := hx
      exact .inr ⟨x - h.length, k0, by omega, h1, rfl, fun g hg => by rwa [List.getElem?_append_right (by omega), hlen] at hg⟩
  have hal : ∀ x, x ∈ alive (μ ++ μ') (h ++ H'.map (Blk.ren (back h.length []))) → x ∈ alive μ h ∨ w.heap.size ≤ x := fun x hx => by
    obtain ⟨i, k, h1, h2, h3⟩ := mem_alive.1 hx
    rcases hget i k h2 with ⟨_, q2, q3⟩ | ⟨j, k0, rfl, q2, rfl, q4⟩
    · exact .inl (mem_alive.2 ⟨i, k, q3 x h1, q2, h3⟩)
    · exact .inr (hnew j k0 x q2 (q4 x h1))
  have hT : Stp μ h w (μ ++ μ') (h ++ H'.map (Blk.ren (back h.length []))) w' := by
    refine ⟨hK.mono (by simp), fun b g hb => by rw [List.getElem?_append_left (List.getElem?_eq_some_iff.1 hb).1]; exact hb, fun x hx hl => ?_⟩
    rcases hal x hx with hx | hx
    · exact hx
    · omega
  have hfree : ∀ {L : List Nat} {v : AV} {u : Value}, v.flat = true → AV.rep L μ' w' v u → AV.rep (X ++ alive (μ ++ μ') (h ++ H'.map (Blk.ren (back h.length [])))) (μ ++ μ') w' (v.ren (back h.length [])) u := fun hf hv => AV.rep_ren (fun _ h => h) hmap (AV.rep_flat hf hv)
  refine ⟨_, _, μ ++ μ', v, he, ⟨r0, H', hk, rfl, rfl⟩, ?_, hT, hfree f1 s3, by simpa [mapK] using hK⟩
  refine ⟨by simp [hlen, s1.len], ?_, fun g hg => Nat.lt_of_lt_of_le (hS.xlt g hg) hK.size, ?_, ?_, ?_⟩
  · intro g hg
    rcases List.mem_append.1 hg with hg | hg
    · exact Nat.lt_of_lt_of_le (hS.lt g hg) hK.size
    · exact s1.lt g hg
  · intro i k g hi hk hg
    rcases hget i k hi with ⟨_, q2, q3⟩ | ⟨j, k0, rfl, q2, rfl, q4⟩
    · exact hS.out i k g q2 hk (q3 g hg)
    · intro hx
      have := hnew j k0 g q2 (q4 g hg)
      have := hS.xlt g hx
      omega
  · intro i j k k' g hij hi hj hm hk hgi hgj
    rcases hget i k hi with ⟨_, q2, q3⟩ | ⟨i', k0, rfl, q2, rfl, q4⟩ <;> rcases hget j k' hj with ⟨_, p2, p3⟩ | ⟨j', k1, rfl, p2, rfl, p4⟩
    · exact hS.inj i j k k' g hij q2 p2 hm hk (q3 g hgi) (p3 g hgj)
    · have := hnew j' k1 g p2 (p4 g hgj)
      have := hS.lt g (List.mem_of_getElem? (q3 g hgi))
      omega
    · have := hnew i' k0 g q2 (q4 g hgi)
      have := hS.lt g (List.mem_of_getElem? (p3 g hgj))
      omega
    · exact s1.inj i' j' k0 k1 g (fun e => hij (by rw [e])) q2 p2 hm hk (q4 g hgi) (p4 g hgj)
  · intro i k g hi hk hg
    rcases hget i k hi with ⟨_, q2, q3⟩ | ⟨j, k0, rfl, q2, rfl, q4⟩
    · obtain ⟨cur, hc, hl⟩ := hS.blk i k g q2 hk (q3 g hg)
      exact ⟨cur, by rw [hK.block g (by simp) (hS.lt g (List.mem_of_getElem? (q3 g hg)))]; exact hc, hl.carry hT.carry⟩
    · obtain ⟨cur, hc, hl⟩ := s1.blk j k0 g q2 hk (q4 g hg)
      exact ⟨cur, hc, Laid.ren (fun _ h => h) hmap (Laid.flat_ (hmut j k0 q2).2 hl)⟩
/-- .. only scalars -/
theorem acalls_read {P : Program} {f : FuncId} {args args' : List AV} {h : List Blk} {ids : List Nat} {r : AV} (hz : Lents h args args' ids) (hc : AFn P f args' r) (hfl : r.flat = true) (hren : ∀ g, r.ren g = r) : ACalls P f args h [] (fun r' h' => r' = r ∧ h' = h) :=
  (acalls_lend hz hc.cl (fun r' H' ⟨e1, e2⟩ => by subst e1 e2; exact ⟨hfl, rfl⟩)).mono fun r' h' ⟨r0, H', ⟨e1, e2⟩, e3, e4⟩ => by subst e1 e2; exact ⟨by rw [e3, hren], by simpa using e4⟩
/-- a call that may change any own block -/
theorem acalls_full {P : Program} {f : FuncId} {args : List AV} {h : List Blk} {K : AV → List Blk → Prop} (hc : ACl P f args h K) : ACalls P f args h (List.range h.length) K := by
  obtain ⟨⟨hfn, hcall⟩⟩ := hc
  refine ⟨hfn, fun X μ w vs hS hr => (hcall X μ w vs hS hr).mono fun e w' ⟨r, H', μ', v, he, hk, s1, s2, s3⟩ => ⟨r, H', μ', v, he, hk, s1, s2, s3, s2.keep.mono fun x hx => ?_⟩⟩
  obtain ⟨i, k, h1, h2, _⟩ := mem_alive.1 hx
  have hl := (List.getElem?_eq_some_iff.1 h2).1
  exact List.mem_map.2 ⟨i, by simpa using hl, by rw [List.getD_eq_getElem?_getD, h1]; rfl⟩
end Go.Proofs.Sh
/- Owned trees: handed back by a function; grown by one. -/
namespace Go.Proofs.Sh
open Go.RowKit

/-- every block of an owned tree, with what lies in it -/
theorem fzL_each {Q : Nat → Prop} {f : C → Option (C × List Nat)} {ks : List Nat} (hf : ∀ c c' i, f c = some (c', i) → (∀ b ∈ i, b ∈ ks) → ∀ b ∈ i, Q b) : ∀ {cs cs' ids}, fzL f cs = some (cs', ids) → (∀ b ∈ ids, b ∈ ks) → ∀ b ∈ ids, Q b
  | [], cs', ids, e, _ => by simp only [fzL, Option.some.injEq, Prod.mk.injEq] at e; rw [← e.2]; simp
  | c :: cs, cs', ids, e, hk => by
    simp only [fzL] at e
    split at e
    · rename_i c1 i c2 j h1 h2
      simp only [Option.some.injEq, Prod.mk.injEq] at e
      obtain ⟨rfl, rfl⟩ := e
      intro b hb
      rcases List.mem_append.1 hb with hb | hb
      · exact hf _ _ _ h1 (fun b hb => hk b (by simp [hb])) b hb
      · exact fzL_each hf h2 (fun b hb => hk b (by simp [hb])) b hb
    · cases e
theorem fzRows_each {Q : Nat → Prop} {f : C → Option (C × List Nat)} {ks : List Nat} (hf : ∀ c c' i, f c = some (c', i) → (∀ b ∈ i, b ∈ ks) → ∀ b ∈ i, Q b) : ∀ {cs cs' ids}, fzRows f cs = some (cs', ids) → (∀ b ∈ ids, b ∈ ks) → ∀ b ∈ ids, Q b
  | [], cs', ids, e, _ => by simp only [fzRows, Option.some.injEq, Prod.mk.injEq] at e; rw [← e.2]; simp
  | c :: cs, cs', ids, e, hk => by
    simp only [fzRows] at e
    split at e
    · rename_i c1 i c2 j h1 h2
      simp only [Option.some.injEq, Prod.mk.injEq] at e
      obtain ⟨rfl, rfl⟩ := e
      intro b hb
      rcases List.mem_append.1 hb with hb | hb
      · exact fzL_each hf h1 (fun b hb => hk b (by simp [hb])) b hb
      · exact fzRows_each hf h2 (fun b hb => hk b (by simp [hb])) b hb
    · cases e
def Holds (h : List Blk) (ks : List Nat) (b : Nat) : Prop := ∃ k d R js, h[b]? = some k ∧ k.st.isMut = true ∧ fzRows (ow h d) k.rows = some (R, js) ∧ ∀ x ∈ js, x ∈ ks
theorem ow_each {h : List Blk} {ks : List Nat} : ∀ {d : Nat} {c c' : C} {ids : List Nat}, ow h d c = some (c', ids) → (∀ b ∈ ids, b ∈ ks) → ∀ b ∈ ids, Holds h ks b := by
  intro d
  induction d with
  | zero =>
    intro c c' ids e _ b hb
    cases c with
    | row s b n => obtain ⟨d', k, R, js, he, _⟩ := ow_row e; cases he
    | _ => rw [ow_leaf (by simp)] at e; rw [leaf_ids e] at hb; simp at hb
  | succ d ih =>
    intro c c' ids e hk b hb
    cases c with
    | row s b' n =>
      obtain ⟨d', k, R, js, he, h1, h2, h3, h4, h5, h6, rfl, rfl⟩ := ow_row e
      cases he
      have hj : ∀ b ∈ js, b ∈ ks := fun b hb => hk b (by simp [hb])
      rcases List.mem_cons.1 hb with rfl | hb
      · exact ⟨k, d, R, js, h1, h2, h6, hj⟩
      · exact fzRows_each (ks := ks) (fun _ _ _ e => ih e) h6 hj b hb
    | _ => rw [ow_leaf (by simp)] at e; rw [leaf_ids e] at hb; simp at hb
theorem owL_each {h : List Blk} {d : Nat} {cs cs' : List C} {ids : List Nat} (e : fzL (ow h d) cs = some (cs', ids)) : ∀ b ∈ ids, Holds h ids b := fzL_each (ks := ids) (fun _ _ _ e => ow_each e) e (fun _ h => h)

/-- the place of a block in a list -/
def posD (ks : List Nat) (b : Nat) : Nat := (pos b ks).getD 0
theorem pos_mem {b : Nat} : ∀ {l : List Nat}, b ∈ l → ∃ i, pos b l = some i
  | [], h => by simp at h
  | x :: l, h => by
    simp only [pos]
    split
    · exact ⟨0, rfl⟩
    · rename_i hx
      rcases List.mem_cons.1 h with h | h
      · exact absurd h.symm hx
      · obtain ⟨i, hi⟩ := pos_mem h
        exact ⟨i + 1, by rw [hi]⟩
theorem posD_get {ks : List Nat} {b : Nat} (h : b ∈ ks) : pos b ks = some (posD ks b) ∧ ks[posD ks b]? = some b := by
  obtain ⟨i, hi⟩ := pos_mem h
  have : posD ks b = i := by simp [posD, hi]
  exact ⟨by rw [this]; exact hi, by rw [this]; exact pos_spec hi⟩
theorem prC_ow {h : List Blk} {ks : List Nat} {d : Nat} {c c' : C} {ids : List Nat} (e : ow h d c = some (c', ids)) (hk : ∀ b ∈ ids, b ∈ ks) : prC false h ks c = some (c.ren (posD ks), []) := by
  cases c with
  | row s b n =>
    obtain ⟨d', k, R, js, he, h1, h2, h3, h4, h5, h6, rfl, rfl⟩ := ow_row e
    simp only [prC, (posD_get (hk b (by simp))).1, C.ren]
  | _ =>
    rw [ow_leaf (by simp)] at e
    first
      | (obtain ⟨rfl, ⟨h1, h2⟩ | ⟨v, h1, hv, h2⟩ | ⟨h1, h2⟩⟩ := leaf_cases e <;> first | (cases h1; done) | (cases h1; rfl))
theorem prCs_ow {h : List Blk} {ks : List Nat} {d : Nat} : ∀ {cs cs' : List C} {ids : List Nat}, fzL (ow h d) cs = some (cs', ids) → (∀ b ∈ ids, b ∈ ks) → prCs false h ks cs = some (cs.map (C.ren (posD ks)), [])
  | [], _, _, _, _ => rfl
  | c :: cs, cs', ids, e, hk => by
    simp only [fzL] at e
    split at e
    · rename_i c1 i c2 j h1 h2
      simp only [Option.some.injEq, Prod.mk.injEq] at e
      obtain ⟨rfl, rfl⟩ := e
      simp only [prCs, prC_ow h1 (fun b hb => hk b (by simp [hb])), prCs_ow h2 (fun b hb => hk b (by simp [hb])), List.map_cons, List.append_nil]
    · cases e
theorem prL_ow {h : List Blk} {ks : List Nat} {d : Nat} {cs cs' : List C} {ids : List Nat} (e : fzL (ow h d) cs = some (cs', ids)) (hk : ∀ b ∈ ids, b ∈ ks) : prL false h ks cs = some (cs.map (C.ren (posD ks)), []) := by
  unfold prL
  split
  · rename_i ht; rw [← renA_map]; unfold renA; rw [if_pos ht]
  · exact prCs_ow e hk
theorem prRs_ow {h : List Blk} {ks : List Nat} {d : Nat} : ∀ {cs cs' : List (List C)} {ids : List Nat}, fzRows (ow h d) cs = some (cs', ids) → (∀ b ∈ ids, b ∈ ks) → prRs h ks cs = some (cs.map (List.map (C.ren (posD ks))), [])
  | [], _, _, _, _ => rfl
  | c :: cs, cs', ids, e, hk => by
    simp only [fzRows] at e
    split at e
    · rename_i c1 i c2 j h1 h2
      simp only [Option.some.injEq, Prod.mk.injEq] at e
      obtain ⟨rfl, rfl⟩ := e
      simp only [prRs, prL_ow h1 (fun b hb => hk b (by simp [hb])), prRs_ow h2 (fun b hb => hk b (by simp [hb])), List.map_cons, List.append_nil]
    · cases e
theorem prR_ow {h : List Blk} {ks : List Nat} {d : Nat} {cs cs' : List (List C)} {ids : List Nat} (e : fzRows (ow h d) cs = some (cs', ids)) (hk : ∀ b ∈ ids, b ∈ ks) : prR h ks cs = some (renRows (posD ks) cs, []) := by
  unfold prR
  split
  · rename_i ht; unfold renRows; rw [if_pos ht]
  · rw [renRows_map]; exact prRs_ow e hk
theorem prH_ow {h : List Blk} {ks : List Nat} : ∀ {l : List Nat}, (∀ b ∈ l, Holds h ks b) → ∃ K, prH h ks l = some (K, []) ∧ K.length = l.length ∧ ∀ (i b : Nat), l[i]? = some b → ∃ k, h[b]? = some k ∧ k.st.isMut = true ∧ K[i]? = some (k.ren (posD ks))
  | [], _ => ⟨[], rfl, rfl, by simp⟩
  | b :: l, hh => by
    obtain ⟨K, h1, h2, h3⟩ := prH_ow (l := l) (fun b hb => hh b (by simp [hb]))
    obtain ⟨k, d, R, js, e1, e2, e3, e4⟩ := hh b (by simp)
    refine ⟨k.ren (posD ks) :: K, ?_, by simp [h2], fun i b' hi => ?_⟩
    · simp only [prH, e1, known_of_mut e2, if_true, prR_ow e3 e4, h1, List.append_nil, Blk.ren]
    · cases i with
      | zero => simp at hi; subst hi; exact ⟨k, e1, e2, rfl⟩
      | succ i => exact h3 i b' (by simpa using hi)

theorem nodupB_of : ∀ {l : List Nat}, l.Nodup → nodupB l = true
  | [], _ => rfl
  | x :: l, h => by
    obtain ⟨h1, h2⟩ := List.nodup_cons.1 h
    simp [nodupB, h1, nodupB_of h2]

theorem nodup_map {f : Nat → Nat} : ∀ {l : List Nat}, (∀ x ∈ l, ∀ y ∈ l, f x = f y → x = y) → l.Nodup → (l.map f).Nodup
  | [], _, _ => List.nodup_nil
  | x :: l, hf, h => by
    obtain ⟨h1, h2⟩ := List.nodup_cons.1 h
    refine List.nodup_cons.2 ⟨fun hm => ?_, nodup_map (fun a ha b hb => hf a (by simp [ha]) b (by simp [hb])) h2⟩
    obtain ⟨y, hy, e⟩ := List.mem_map.1 hm
    have := hf y (by simp [hy]) x (by simp) e
    subst this
    exact h1 hy

/-- a result that is an owned tree: enc the tree, F what stands about its cells -/
def OwnK (enc : List C) (F : List C → AV) (r : AV) (H' : List Blk) : Prop := ∃ cs d ids, r = F cs ∧ fzL (ow H' d) cs = some (enc, ids) ∧ ids.Nodup ∧ ∀ b, b < H'.length → b ∈ ids

theorem own_ret {h : List Blk} {d : Nat} {cs enc : List C} {ids : List Nat} {F : List C → AV} (e : fzL (ow h d) cs = some (enc, ids)) (hn : ids.Nodup) (hF : ∀ cs', prL false h ids cs = some (cs', []) → prVs false h ids [F cs] = some ([F cs'], [])) :
    ∃ r' H' h1, prep false h ids [F cs] = some ([r'], H', h1) ∧ OwnK enc F r' H' := by
  obtain ⟨K, k1, k2, k3⟩ := prH_ow (l := ids) (owL_each e)
  have hp := prL_ow e (fun _ h => h)
  have hv : prVs false h ids [F cs] = some ([F (cs.map (C.ren (posD ids)))], []) := hF _ hp
  refine ⟨F (cs.map (C.ren (posD ids))), K, frzAt [] h, ?_, _, d, ids.map (posD ids), rfl, owL_ren e (fun b hb k hk => ?_), ?_, fun b hb => ?_⟩
  · simp only [prep, hv, k1, apart, List.append_nil, List.all_nil, nodupB_of hn, and_self, if_true]
  · obtain ⟨_, h2⟩ := posD_get hb
    obtain ⟨k', e1, e2, e3⟩ := k3 _ b h2
    rw [hk] at e1; cases e1
    exact e3
  · refine nodup_map (fun x hx y hy he => ?_) hn
    have h1 := (posD_get hx).2
    have h2 := (posD_get hy).2
    rw [he, h2] at h1
    cases h1; rfl
  · rw [k2] at hb
    refine List.mem_map.2 ⟨ids[b], List.getElem_mem hb, ?_⟩
    have hx := (posD_get (List.getElem_mem hb)).2
    obtain ⟨hi, hv⟩ := List.getElem?_eq_some_iff.1 hx
    have hpw := List.pairwise_iff_getElem.1 hn
    rcases Nat.lt_trichotomy (posD ids ids[b]) b with hlt | heq | hgt
    · exact absurd hv (hpw _ _ hi hb hlt)
    · exact heq
    · exact absurd hv.symm (hpw _ _ hb hi hgt)

theorem ow_flat {h : List Blk} {d : Nat} {c c' : C} {ids : List Nat} (e : ow h d c = some (c', ids)) : c.flat = true := by
  cases c with
  | row s b n => rfl
  | _ =>
    rw [ow_leaf (by simp)] at e
    obtain ⟨rfl, ⟨h1, h2⟩ | ⟨v, h1, hv, h2⟩ | ⟨h1, h2⟩⟩ := leaf_cases e <;> first | (cases h1; done) | (cases h1; rfl)
theorem owL_flat {h : List Blk} {d : Nat} : ∀ {cs cs' : List C} {ids : List Nat}, fzL (ow h d) cs = some (cs', ids) → cs.all C.flat = true
  | [], _, _, _ => rfl
  | c :: cs, cs', ids, e => by
    simp only [fzL] at e
    split at e
    · rename_i c1 i c2 j h1 h2
      simp only [List.all_cons, ow_flat h1, owL_flat h2, Bool.true_and]
    · cases e
theorem owR_flat {h : List Blk} {d : Nat} : ∀ {cs cs' : List (List C)} {ids : List Nat}, fzRows (ow h d) cs = some (cs', ids) → cs.all (fun r => r.all C.flat) = true
  | [], _, _, _ => rfl
  | c :: cs, cs', ids, e => by
    simp only [fzRows] at e
    split at e
    · rename_i c1 i c2 j h1 h2
      simp only [List.all_cons, owL_flat h1, owR_flat h2, Bool.true_and]
    · cases e
theorem OwnK.flat {enc : List C} {F : List C → AV} {r : AV} {H' : List Blk} (hF : ∀ cs, cs.all C.flat = true → (F cs).flat = true) (h : OwnK enc F r H') : r.flat = true ∧ H'.all Blk.flat = true := by
  obtain ⟨cs, d, ids, rfl, e, _, hc⟩ := h
  refine ⟨hF cs (owL_flat e), List.all_eq_true.2 fun k hk => ?_⟩
  obtain ⟨b, hb⟩ := List.getElem?_of_mem hk
  obtain ⟨k', d', R, js, e1, e2, e3, _⟩ := owL_each e b (hc b (List.getElem?_eq_some_iff.1 hb).1)
  rw [hb] at e1; cases e1
  simp only [Blk.flat, e2, owR_flat e3, Bool.and_self]

/-- what a call leaves that yields an owned tree: h the own blocks ahead -/
def Owned (h : List Blk) (enc : List C) (F : List C → AV) (r : AV) (h' : List Blk) : Prop := ∃ cs d ids, r = F cs ∧ fzL (ow h' d) cs = some (enc, ids) ∧ ids.Nodup ∧ (∀ b ∈ ids, h.length ≤ b ∧ b < h'.length) ∧ h.length ≤ h'.length ∧ ∀ b, b < h.length → h'[b]? = h[b]?
theorem acalls_own {P : Program} {f : FuncId} {args args' : List AV} {h : List Blk} {ids : List Nat} {enc : List C} {F : List C → AV} (hz : Lents h args args' ids) (hc : ACl P f args' [] (OwnK enc F)) (hF : ∀ cs, cs.all C.flat = true → (F cs).flat = true) (hR : ∀ cs g, (F cs).ren g = F (cs.map (C.ren g))) : ACalls P f args h [] (Owned h enc F) := by
  refine (acalls_lend hz hc (fun r H' h => h.flat hF)).mono fun r h' ⟨r0, H', ⟨cs, d, ids, e1, e2, e3, e4⟩, e5, e6⟩ => ?_
  subst e1 e5 e6
  refine ⟨_, d, ids.map (back h.length []), hR _ _, owL_ren e2 (fun b _ k hk => ?_), ?_, fun b hb => ?_, by simp, fun b hb => List.getElem?_append_left hb⟩
  · rw [back_nil, List.getElem?_append_right (by omega), Nat.add_sub_cancel_left, List.getElem?_map, hk]; rfl
  · exact nodup_map (fun x _ y _ hxy => by simpa [back_nil] using hxy) e3
  · obtain ⟨x, hx, rfl⟩ := List.mem_map.1 hb
    have := (owL_mut e2 x hx).lt
    rw [back_nil]
    simp only [List.length_append, List.length_map]
    omega

/-! ### an append -/
theorem own_grow0 {h : List Blk} {d s ty : Nat} {cs enc : List C} {ids : List Nat} {y : Blk} (e : fzL (ow h d) cs = some (enc, ids)) (hl : cs.length = s) (hn : ids.Nodup) (hb : ∀ b ∈ ids, b < h.length) :
    ow (h ++ [y] ++ [⟨s, ty, .mut, [cs]⟩]) (d + 1) (.row s (h.length + 1) 1) = some (.sl [enc], (h.length + 1) :: ids) ∧ ((h.length + 1) :: ids).Nodup := by
  refine ⟨ow_row_of (k := ⟨s, ty, .mut, [cs]⟩) (by rw [List.getElem?_append_right (by simp)]; simp) rfl rfl rfl (by simp [rowsLen, hl]) ?_, List.nodup_cons.2 ⟨fun hm => ?_, hn⟩⟩
  · have := owL_frame (h' := h ++ [y] ++ [⟨s, ty, .mut, [cs]⟩]) e (fun b hb' => by rw [List.append_assoc, List.getElem?_append_left (hb b hb')])
    simp only [fzRows, this, List.append_nil]
  · have := hb _ hm; omega
theorem own_grow {h : List Blk} {d d2 s ty b n : Nat} {cs enc : List C} {ids js : List Nat} {y k : Blk} {R : List (List C)} (e0 : ow h d2 (.row s b n) = some (.sl R, js)) (hk : h[b]? = some k) (e : fzL (ow h d) cs = some (enc, ids)) (hl : cs.length = s) (hn : (js ++ ids).Nodup) :
    ∃ d3 is, ow ((h ++ [y]).set b ⟨k.s, k.ty, .dead, []⟩ ++ [⟨s, ty, .mut, k.rows ++ [cs]⟩]) d3 (.row s (h.length + 1) (n + 1)) = some (.sl (R ++ [enc]), (h.length + 1) :: is) ∧ ((h.length + 1) :: is).Nodup ∧ ∀ x ∈ is, x ∈ js ++ ids := by
  obtain ⟨d', k', R', js', rfl, h1, h2, h3, h4, h5, h6, h7, rfl⟩ := ow_row e0
  rw [hk] at h1; cases h1
  cases h7
  have hbl : b < h.length := (List.getElem?_eq_some_iff.1 hk).1
  rw [List.cons_append, List.nodup_cons] at hn
  obtain ⟨hnb, hn⟩ := hn
  have hlt : ∀ x ∈ js' ++ ids, x < h.length := fun x hx => by
    rcases List.mem_append.1 hx with hx | hx
    · exact (owR_mut h6 x hx).lt
    · exact (owL_mut e x hx).lt
  have hfr : ∀ x ∈ js' ++ ids, ((h ++ [y]).set b ⟨k.s, k.ty, .dead, []⟩ ++ [⟨s, ty, .mut, k.rows ++ [cs]⟩])[x]? = h[x]? := fun x hx => by
    have := hlt x hx
    rw [List.getElem?_append_left (by simp; omega), List.getElem?_set_ne (fun e => hnb (by rw [e]; exact hx)), List.getElem?_append_left this]
  refine ⟨max d d' + 1, js' ++ ids, ow_row_of (k := ⟨s, ty, .mut, k.rows ++ [cs]⟩) (by rw [List.getElem?_append_right (by simp)]; simp) rfl (by simp [h3]) rfl ?_ ?_, List.nodup_cons.2 ⟨fun hm => ?_, hn⟩, fun x hx => List.mem_cons_of_mem _ hx⟩
  · subst h4
    rw [rowsLen_append, h5]; simp [rowsLen, hl]
  · refine fzRows_app (owR_le (Nat.le_max_right d d') (owR_frame h6 (fun x hx => hfr x (by simp [hx])))) ?_
    simp only [fzRows, owL_le (Nat.le_max_left d d') (owL_frame e (fun x hx => hfr x (by simp [hx]))), List.append_nil]
  · have := hlt _ hm; omega
end Go.Proofs.Sh
/- Owned trees: slices that grow, in a state of which the first blocks are known. -/
namespace Go.Proofs.Sh
open Go.RowKit

@[go_sem] theorem app_len {α : Type} (T : List α) (x : α) : (T ++ [x])[T.length]? = some x := by simp
@[go_sem] theorem app_len1 {α : Type} (T : List α) (x y : α) : (T ++ [x, y])[T.length]? = some x := by simp
@[go_sem] theorem app_len2 {α : Type} (T : List α) (x y : α) : (T ++ [x, y])[T.length + 1]? = some y := by simp
@[go_sem] theorem set_len {α : Type} (T : List α) (x y : α) : (T ++ [x]).set T.length y = T ++ [y] := by simp
@[go_sem] theorem set_len1 {α : Type} (T : List α) (x y z : α) : (T ++ [x, z]).set T.length y = T ++ [y, z] := by simp
@[go_sem] theorem set_len2 {α : Type} (T : List α) (x y z : α) : (T ++ [x, z]).set (T.length + 1) y = T ++ [x, y] := by simp
@[go_sem] theorem app_lenA {α : Type} (T : List α) (x y : α) : (T ++ [x] ++ [y])[T.length]? = some x := by simp
@[go_sem] theorem app_lenB {α : Type} (T : List α) (x y : α) : (T ++ [x] ++ [y])[T.length + 1]? = some y := by simp
@[go_sem] theorem set_lenA {α : Type} (T : List α) (x y z : α) : (T ++ [x] ++ [y]).set T.length z = T ++ [z] ++ [y] := by simp
@[go_sem] theorem set_lenB {α : Type} (T : List α) (x y z : α) : (T ++ [x] ++ [y]).set (T.length + 1) z = T ++ [x] ++ [z] := by simp
theorem get_app {α : Type} {T : List α} {j : Nat} {x : α} (h : T[j]? = some x) (U : List α) : (T ++ U)[j]? = some x := by
  rw [List.getElem?_append_left (List.getElem?_eq_some_iff.1 h).1]; exact h
theorem pre_split (pre : List Blk) {T h' : List Blk} (h1 : (pre ++ T).length ≤ h'.length) (h2 : ∀ b, b < (pre ++ T).length → h'[b]? = (pre ++ T)[b]?) : ∃ T', h' = pre ++ T' ∧ T.length ≤ T'.length ∧ ∀ i, i < T.length → T'[i]? = T[i]? := by
  refine ⟨h'.drop pre.length, ?_, by simp only [List.length_append, List.length_drop] at *; omega, fun i hi => ?_⟩
  · apply List.ext_getElem?
    intro i
    by_cases hi : i < pre.length
    · rw [h2 i (by simp; omega), List.getElem?_append_left hi, List.getElem?_append_left hi]
    · rw [List.getElem?_append_right (by omega), List.getElem?_drop]; congr 1; omega
  · rw [List.getElem?_drop, h2 _ (by simp; omega), List.getElem?_append_right (by omega)]; congr 1; omega
theorem pre1 {a : Blk} {T h' : List Blk} (h1 : (a :: T).length ≤ h'.length) (h2 : ∀ i, i < (a :: T).length → h'[i]? = (a :: T)[i]?) : ∃ T', h' = a :: T' ∧ T.length ≤ T'.length ∧ ∀ i, i < T.length → T'[i]? = T[i]? := pre_split [a] h1 h2
theorem pre2 {a b : Blk} {T h' : List Blk} (h1 : (a :: b :: T).length ≤ h'.length) (h2 : ∀ i, i < (a :: b :: T).length → h'[i]? = (a :: b :: T)[i]?) : ∃ T', h' = a :: b :: T' ∧ T.length ≤ T'.length ∧ ∀ i, i < T.length → T'[i]? = T[i]? := pre_split [a, b] h1 h2
theorem pre3 {a b c : Blk} {T h' : List Blk} (h1 : (a :: b :: c :: T).length ≤ h'.length) (h2 : ∀ i, i < (a :: b :: c :: T).length → h'[i]? = (a :: b :: c :: T)[i]?) : ∃ T', h' = a :: b :: c :: T' ∧ T.length ≤ T'.length ∧ ∀ i, i < T.length → T'[i]? = T[i]? := pre_split [a, b, c] h1 h2

/-- the slice cell c: rows R, owned, in T, which lies behind p blocks -/
def Grown (s ty p : Nat) (R : List (List C)) (c : C) (T : List Blk) : Prop :=
  (R = [] ∧ c = .sc (.slice none 0 0)) ∨ ∃ j rows d js, 0 < R.length ∧ c = .row s (j + p) R.length ∧ T[j]? = some ⟨s, ty, .mut, rows⟩ ∧ rows.length = R.length ∧ rowsLen s rows = true ∧ (∀ pre : List Blk, pre.length = p → ow (pre ++ T) d c = some (.sl R, js)) ∧ js.Nodup ∧ ∀ b ∈ js, p ≤ b
theorem ow_pre {pre pre' T T' : List Blk} {d : Nat} {c c' : C} {ids : List Nat} (hp : pre.length = pre'.length) (hf : ∀ i, i < T.length → T'[i]? = T[i]?) (e : ow (pre ++ T) d c = some (c', ids)) (hge : ∀ b ∈ ids, pre.length ≤ b) : ow (pre' ++ T') d c = some (c', ids) :=
  ow_frame e (fun b hb => by
    have h1 := hge b hb
    have h2 := (ow_mut e b hb).lt
    rw [List.length_append] at h2
    rw [List.getElem?_append_right (by omega), List.getElem?_append_right h1, hf _ (by omega)]
    congr 1; omega)
theorem owL_pre {pre pre' T T' : List Blk} {d : Nat} {c c' : List C} {ids : List Nat} (hp : pre.length = pre'.length) (hf : ∀ i, i < T.length → T'[i]? = T[i]?) (e : fzL (ow (pre ++ T) d) c = some (c', ids)) (hge : ∀ b ∈ ids, pre.length ≤ b) : fzL (ow (pre' ++ T') d) c = some (c', ids) :=
  owL_frame e (fun b hb => by
    have h1 := hge b hb
    have h2 := (owL_mut e b hb).lt
    rw [List.length_append] at h2
    rw [List.getElem?_append_right (by omega), List.getElem?_append_right h1, hf _ (by omega)]
    congr 1; omega)
/-- one more row is appended -/
theorem Grown.more {s ty p d : Nat} {R : List (List C)} {c : C} {T T' pre : List Blk} {cs enc : List C} {ids : List Nat} (hG : Grown s ty p R c T) (hp : pre.length = p) (hT : T.length ≤ T'.length) (hf : ∀ i, i < T.length → T'[i]? = T[i]?)
    (e : fzL (ow (pre ++ T') d) cs = some (enc, ids)) (hl : cs.length = s) (hn : ids.Nodup) (hge : ∀ b ∈ ids, p + T.length ≤ b) :
    (c = .sc (.slice none 0 0) ∧ R = [] ∧ ∀ y, Grown s ty p (R ++ [enc]) (.row s (T'.length + 1 + p) 1) (T' ++ [y] ++ [⟨s, ty, .mut, [cs]⟩])) ∨
    ∃ j rows, c = .row s (j + p) R.length ∧ 0 < R.length ∧ T'[j]? = some ⟨s, ty, .mut, rows⟩ ∧ rows.length = R.length ∧ rowsLen s rows = true ∧ ∀ y, Grown s ty p (R ++ [enc]) (.row s (T'.length + 1 + p) (R.length + 1)) ((T' ++ [y]).set j ⟨s, ty, .dead, []⟩ ++ [⟨s, ty, .mut, rows ++ [cs]⟩]) := by
  have hgp : ∀ b ∈ ids, pre.length ≤ b := fun b hb => by have := hge b hb; omega
  rcases hG with ⟨hR, hc⟩ | ⟨j, rows, d0, js, hpos, hc, hj, hrl, hrs, how, hnd, hjs⟩
  · subst hR hc
    refine .inl ⟨rfl, rfl, fun y => .inr ⟨T'.length + 1, [cs], d + 1, (T'.length + 1 + p) :: ids, by simp, rfl, by rw [List.getElem?_append_right (by simp)]; simp, rfl, by simp [rowsLen, hl], fun pre' hp' => ?_, ?_, ?_⟩⟩
    · have e' := owL_pre (pre' := pre') (T' := T') (by omega) (fun _ _ => rfl) e hgp
      have := (own_grow0 (ty := ty) (y := y) e' hl hn (fun b hb => (owL_mut e' b hb).lt)).1
      rw [List.length_append, hp', show p + T'.length + 1 = T'.length + 1 + p from by omega] at this
      simpa only [List.append_assoc, List.nil_append] using this
    · refine List.nodup_cons.2 ⟨fun hm => ?_, hn⟩
      have := (owL_mut e _ hm).lt
      rw [List.length_append] at this; omega
    · intro b hb
      rcases List.mem_cons.1 hb with rfl | hb
      · omega
      · have := hge b hb; omega
  · subst hc
    have hjl := (List.getElem?_eq_some_iff.1 hj).1
    have hj' : T'[j]? = some ⟨s, ty, .mut, rows⟩ := by rw [hf j hjl]; exact hj
    refine .inr ⟨j, rows, rfl, hpos, hj', hrl, hrs, fun y => ?_⟩
    have key : ∀ pre' : List Blk, pre'.length = p → ∃ d3 is, ow (pre' ++ ((T' ++ [y]).set j ⟨s, ty, .dead, []⟩ ++ [⟨s, ty, .mut, rows ++ [cs]⟩])) d3 (.row s (T'.length + 1 + p) (R.length + 1)) = some (.sl (R ++ [enc]), (T'.length + 1 + p) :: is) ∧ ((T'.length + 1 + p) :: is).Nodup ∧ ∀ x ∈ is, x ∈ js ++ ids := fun pre' hp' => by
      have e0 := ow_pre (pre' := pre') (T' := T') (by omega) hf (how pre hp) (fun b hb => by have := hjs b hb; omega)
      have e1 := owL_pre (pre' := pre') (T' := T') (by omega) (fun _ _ => rfl) e hgp
      have hkk : (pre' ++ T')[j + p]? = some ⟨s, ty, .mut, rows⟩ := by rw [List.getElem?_append_right (by omega), ← hj']; congr 1; omega
      obtain ⟨d3, is, h1, h2, h3⟩ := own_grow (ty := ty) (y := y) e0 hkk e1 hl (by
        refine List.nodup_append.2 ⟨hnd, hn, fun a ha b hb hab => ?_⟩
        subst hab
        have h1 := (ow_mut (how pre hp) a ha).lt
        rw [List.length_append] at h1
        have := hge a hb; omega)
      rw [List.length_append, hp', show p + T'.length + 1 = T'.length + 1 + p from by omega] at h1 h2
      refine ⟨d3, is, ?_, h2, h3⟩
      rw [List.append_assoc, List.set_append_right _ _ (by omega), show j + p - pre'.length = j from by omega, List.append_assoc] at h1
      exact h1
    obtain ⟨d3, is, h1, h2, h3⟩ := key pre hp
    have hise : ∀ x ∈ (T'.length + 1 + p) :: is, p ≤ x := fun x hx => by
      rcases List.mem_cons.1 hx with rfl | hx
      · omega
      · rcases List.mem_append.1 (h3 x hx) with hx | hx
        · exact hjs x hx
        · have := hge x hx; omega
    refine .inr ⟨T'.length + 1, rows ++ [cs], d3, _, by simp, by simp, by rw [List.getElem?_append_right (by simp)]; simp, by simp [hrl], by rw [rowsLen_append, hrs]; simp [rowsLen, hl], fun pre' hp' => ?_, h2, hise⟩
    have h4 := ow_pre (pre' := pre') (T' := (T' ++ [y]).set j ⟨s, ty, .dead, []⟩ ++ [⟨s, ty, .mut, rows ++ [cs]⟩]) (by omega) (fun _ _ => rfl) h1 (fun b hb => by have := hise b hb; omega)
    simpa using h4

/-- a struct's cells are handed back with the blocks of their trees -/
theorem ret_ownK {P : Program} {rs : List ResultVar} {s : ASt} {d : Nat} {cs enc : List C} {ids : List Nat} {F : List C → AV} (h : aresult P s rs = some (F cs)) (e : fzL (ow s.h d) cs = some (enc, ids)) (hn : ids.Nodup) (hF : ∀ cs', prL false s.h ids cs = some (cs', []) → prVs false s.h ids [F cs] = some ([F cs'], [])) : ARet P rs 0 (OwnK enc F) s := by
  obtain ⟨r', H', h1, q1, q2⟩ := own_ret e hn hF
  exact ret_own ids h (by simpa using q1) q2
theorem prVs_agg {h : List Blk} {ids : List Nat} {cs cs' : List C} (e : prL false h ids cs = some (cs', [])) : prVs false h ids [.agg cs] = some ([.agg cs'], []) := by simp only [prVs, prV, e, List.append_nil]
theorem ren_agg (cs : List C) (g : Nat → Nat) : (AV.agg cs).ren g = .agg (cs.map (C.ren g)) := by simp only [AV.ren, renA_map]
/-- the whole of a slice that has grown -/
theorem Grown.ow {s ty p : Nat} {R : List (List C)} {c : C} {T : List Blk} (hG : Grown s ty p R c T) : ∃ d js, (∀ pre : List Blk, pre.length = p → ow (pre ++ T) d c = some (.sl R, js)) ∧ js.Nodup ∧ ∀ b ∈ js, p ≤ b := by
  rcases hG with ⟨rfl, rfl⟩ | ⟨j, rows, d0, js, hpos, rfl, hj, hrl, hrs, how, hnd, hjs⟩
  · exact ⟨0, [], fun _ _ => rfl, List.nodup_nil, by simp⟩
  · exact ⟨d0, js, how, hnd, hjs⟩
theorem ow_int {h : List Blk} {d : Nat} {k : IntKind} {n : Int} : Sh.ow h d (.sc (.int k n)) = some (.sc (.int k n), []) := by rw [ow_leaf (by simp)]; rfl
theorem ow_str {h : List Blk} {d : Nat} {n : ByteArray} : Sh.ow h d (.sc (.string n)) = some (.sc (.string n), []) := by rw [ow_leaf (by simp)]; rfl
theorem owL_two {h : List Blk} {d : Nat} {k : IntKind} {n : Int} {c c' : C} {js : List Nat} (e : Sh.ow h d c = some (c', js)) : fzL (Sh.ow h d) [.sc (.int k n), c] = some ([.sc (.int k n), c'], js) := by
  simp only [fzL, ow_int, e, List.append_nil, List.nil_append]

/-! ### a slice that is made whole and filled row by row -/
/-- rows of which those of R are there, owned, in T, which lies behind p blocks; m more are as z says -/
def Filled (s p : Nat) (R : List (List C)) (m : Nat) (z : List C) (rows : List (List C)) (T : List Blk) : Prop :=
  ∃ rs d js, rows = rs ++ List.replicate m z ∧ rowsLen s rs = true ∧ rs.length = R.length ∧ (∀ pre : List Blk, pre.length = p → fzRows (ow (pre ++ T) d) rs = some (R, js)) ∧ js.Nodup ∧ ∀ b ∈ js, p ≤ b
theorem Filled.zero {s p m : Nat} {z : List C} : Filled s p [] m z (List.replicate m z) [] := ⟨[], 0, [], rfl, rfl, rfl, fun _ _ => rfl, List.nodup_nil, by simp⟩
theorem Filled.get {s p m : Nat} {R : List (List C)} {z : List C} {rows : List (List C)} {T : List Blk} (h : Filled s p R (m + 1) z rows T) : rows[R.length]? = some z := by
  obtain ⟨rs, d, js, rfl, h2, h3, h4, h5, h6⟩ := h
  rw [← h3, List.getElem?_append_right (Nat.le_refl _)]
  simp
theorem owR_pre {pre pre' T T' : List Blk} {d : Nat} {c c' : List (List C)} {ids : List Nat} (hp : pre.length = pre'.length) (hf : ∀ i, i < T.length → T'[i]? = T[i]?) (e : fzRows (ow (pre ++ T) d) c = some (c', ids)) (hge : ∀ b ∈ ids, pre.length ≤ b) : fzRows (ow (pre' ++ T') d) c = some (c', ids) :=
  owR_frame e (fun b hb => by
    have h1 := hge b hb
    have h2 := (owR_mut e b hb).lt
    rw [List.length_append] at h2
    rw [List.getElem?_append_right (by omega), List.getElem?_append_right h1, hf _ (by omega)]
    congr 1; omega)
theorem Filled.next {s p m d : Nat} {R : List (List C)} {z : List C} {rows : List (List C)} {T T' pre : List Blk} {cs enc : List C} {ids : List Nat} (h : Filled s p R (m + 1) z rows T) (hp : pre.length = p) (hf : ∀ i, i < T.length → T'[i]? = T[i]?)
    (e : fzL (ow (pre ++ T') d) cs = some (enc, ids)) (hl : cs.length = s) (hn : ids.Nodup) (hge : ∀ b ∈ ids, p + T.length ≤ b) : Filled s p (R ++ [enc]) m z (rows.set R.length cs) T' := by
  obtain ⟨rs, d0, js, rfl, h2, h3, h4, h5, h6⟩ := h
  refine ⟨rs ++ [cs], max d0 d, js ++ ids, ?_, by rw [rowsLen_append, h2]; simp [rowsLen, hl], by simp [h3], fun pre' hp' => ?_, ?_, ?_⟩
  · rw [← h3, List.set_append_right _ _ (Nat.le_refl _)]
    simp [List.replicate_succ]
  · refine fzRows_app (owR_le (Nat.le_max_left _ _) (owR_pre (pre := pre') (by omega) hf (h4 pre' hp') (fun b hb => by have := h6 b hb; omega))) ?_
    have := owL_le (Nat.le_max_right d0 d) (owL_pre (pre' := pre') (T' := T') (by omega) (fun _ _ => rfl) e (fun b hb => by have := hge b hb; omega))
    simp only [fzRows, this, List.append_nil]
  · refine List.nodup_append.2 ⟨h5, hn, fun a ha b hb hab => ?_⟩
    subst hab
    have h1 := (owR_mut (h4 pre hp) a ha).lt
    rw [List.length_append] at h1
    have := hge a hb; omega
  · intro b hb
    rcases List.mem_append.1 hb with hb | hb
    · exact h6 b hb
    · have := hge b hb; omega
theorem Filled.all {s p b n : Nat} {R : List (List C)} {z : List C} {rows : List (List C)} {T pre : List Blk} {k : Blk} (h : Filled s p R 0 z rows T) (hp : pre.length = p) (hb : b < p) (hk : pre[b]? = some k) (hr : k.rows = rows) (hs : k.s = s) (hm : k.st.isMut = true) (hn : n = R.length) : ∃ d js, ow (pre ++ T) d (.row s b n) = some (.sl R, b :: js) ∧ (b :: js).Nodup := by
  obtain ⟨rs, d0, js, rfl, h2, h3, h4, h5, h6⟩ := h
  simp only [List.replicate_zero, List.append_nil] at hr
  refine ⟨d0 + 1, js, ow_row_of (k := k) (by rw [List.getElem?_append_left (by omega)]; exact hk) hm (by rw [hr, h3, hn]) hs.symm (by rw [hr]; exact h2) (by rw [hr]; exact h4 pre hp), List.nodup_cons.2 ⟨fun hm => ?_, h5⟩⟩
  have := h6 b hm; omega

/-- one cell as a value -/
def one1 (cs : List C) : AV := .one (cs.getD 0 .top)
theorem one1_flat (cs : List C) (h : cs.all C.flat = true) : (one1 cs).flat = true := by
  cases cs with
  | nil => rfl
  | cons c cs => simp only [List.all_cons, Bool.and_eq_true] at h; exact h.1
theorem one1_ren (cs : List C) (g : Nat → Nat) : (one1 cs).ren g = one1 (cs.map (C.ren g)) := by
  cases cs <;> rfl
theorem prVs_one1 {h : List Blk} {ids : List Nat} {c : C} {d : Nat} {enc : List C} (e : fzL (Sh.ow h d) [c] = some (enc, ids)) (cs' : List C) (ep : prL false h ids [c] = some (cs', [])) : prVs false h ids [one1 [c]] = some ([one1 cs'], []) := by
  obtain ⟨x, i, h1, h2⟩ : ∃ x i, Sh.ow h d c = some (x, i) ∧ i = ids := by
    simp only [fzL] at e
    split at e
    · rename_i c1 i c2 j h1 h2
      simp only [Option.some.injEq, Prod.mk.injEq] at e h2
      exact ⟨c1, i, h1, by rw [← e.2, ← h2.2]; simp⟩
    · cases e
  subst h2
  have h3 := prC_ow (ks := i) h1 (fun _ h => h)
  have h4 := prL_ow e (fun _ h => h)
  rw [h4] at ep
  simp only [Option.some.injEq, Prod.mk.injEq, and_true] at ep
  subst ep
  simp only [prVs, prV, one1, List.getD_cons_zero, h3, List.append_nil, List.map_cons, List.map_nil]
theorem owL_one {h : List Blk} {d : Nat} {c c' : C} {js : List Nat} (e : Sh.ow h d c = some (c', js)) : fzL (Sh.ow h d) [c] = some ([c'], js) := by
  simp only [fzL, e, List.append_nil]
end Go.Proofs.Sh
/- Types: copies that are owned, in the program. On shadows. -/
namespace Go.Proofs.Ytchcbfbnffhifaa
open Go.RowKit Go.Proofs.Sh Go.Proofs.Grad
set_option maxRecDepth 100000
set_option maxHeartbeats 4000000
theorem iOwnTyO (n : Nat) (hn : n ≤ 4398046511104) : ∀ t : Ty, t.size < n → ACl Try.prog 117 [.agg (tyC t)] [] (OwnK (tyC t) .agg) := by
  induction n with
  | zero => intro t h; omega
  | succ n ih =>
    intro t h
    have hl : t.kids.length < 4398046511104 := by have := Ty.length_le_sizes t.kids; cases t; simp only [Ty.size, Ty.kids] at *; omega
    refine acl_in Try.func117 rfl isfn_117 (Nat.le_of_ble_eq_true rfl) (fun R hR => ?_); rw [Try.results117] at hR; refine wg_run ?_; (simp only [Try.f117, go_sem])
    refine wd_for (σ := Nat × C × List Blk) [2, 3, 10, 11, 12] (fun x => [.one (.ptr 2 1 0 0), .one (.ptr 2 2 0 0), .one (.sl (tyR t.kids)), .one (.sc (.int .i64 t.kids.length)), .one (.sc (.int .i64 (x.1 : Nat)))])
      (fun x => ⟨2, 32, .mut, [tyC t]⟩ :: ⟨2, 32, .mut, [[.sc (.int .i64 0), .sc (.slice none 0 0)]]⟩ :: ⟨2, 32, .mut, [[.sc (.int .i64 t.kind), x.2.1]]⟩ :: x.2.2)
      (fun x => x.1 ≤ t.kids.length ∧ Grown 2 32 3 (tyR (t.kids.take x.1)) x.2.1 x.2.2) (fun x => t.kids.length - x.1) (0, .sc (.slice none 0 0), []) ⟨Nat.zero_le _, .inl ⟨rfl, rfl⟩⟩ (head_all (by (simp only [go_sem]); first | done | rfl) ⟨rfl, rfl⟩) ?_
    rintro ⟨k, c, T⟩ ⟨hk, hI⟩ G hG
    simp only at hk hI hG ⊢
    refine wg_run ?_
    (simp only [go_sem])
    ((first | refine sp1 ?_ ?_ | refine sp2 ?_ ?_ | refine sp3 ?_ ?_ | refine sp4 ?_ ?_ | refine sp5 ?_ ?_ | refine sp6 ?_ ?_ | refine sp7 ?_ ?_) <;> intro hb) <;> (simp only [go_sem, hb])
    · have hk1 : k < t.kids.length := by have := of_decide_eq_true hb; omega
      repeat' (first | (first | (simp only [go_sem, hb]) | (((first | refine sp1 ?_ ?_ | refine sp2 ?_ ?_ | refine sp3 ?_ ?_ | refine sp4 ?_ ?_ | refine sp5 ?_ ?_ | refine sp6 ?_ ?_ | refine sp7 ?_ ?_) <;> intro hb) <;> (simp only [go_sem, hb, hb])) | ((first | refine wm_done ?_ | refine wt_done ?_ | refine wg_run ?_ | refine fk ?_ ?_) <;> (simp only [go_sem, hb]))) | ((first | refine mx 6 [] follows ?_ | refine mx 5 [] follows ?_ | refine mx 4 [] follows ?_ | refine mx 3 [] follows ?_ | refine mx 2 [] follows ?_ | refine mx 1 [] follows ?_ | refine mx 0 [] follows ?_ | fail); (simp only [go_sem, hb])))
      refine wm_any (acalls_own (.cons (.same (by (simp only [go_sem]); first | done | rfl)) .nil) (ih (by omega) (kid t.kids k) (by have := kid_lt hk1; omega)) (fun _ h => h) (fun _ _ => by simp only [AV.ren, renA_map])) (by (simp only [go_sem]); first | done | rfl) (by (simp only [go_sem]); first | done | rfl) ?_
      rintro _ h' ⟨cs, d, ids, rfl, e1, e2, e3, e4, e5⟩
      obtain ⟨T', rfl, f1, f2⟩ := pre3 e4 e5
      have hcs : cs.length = 2 := by rw [← fzL_len e1, tyC_length]
      have hlen : (t.kids.take k).length = k := by rw [List.length_take]; omega
      have hcap : (k + 1) * 32 ≤ 140737488355328 := by omega
      have hw1 : IntKind.i64.wrap (((k : Nat) : Int) + 1) = ((k + 1 : Nat) : Int) := wrap_succ hk1 (by omega)
      rcases hI.more (pre := [_, _, _]) rfl (Nat.le_trans (by simp) f1) (fun i hi => by rw [f2 i (by simp; omega), List.getElem?_append_left hi]) e1 hcs e2 (fun b hb => by have := (e3 b hb).1; simp at this; omega) with ⟨rfl, h0, hy⟩ | ⟨j, rows, rfl, hpos, hj, hrl, hrs, hy⟩
      · (simp only [go_sem, hcs])
        repeat' (first | (simp only [go_sem, hcs, hw1, hlen, hcap]) | (((first | refine sp1 ?_ ?_ | refine sp2 ?_ ?_ | refine sp3 ?_ ?_ | refine sp4 ?_ ?_ | refine sp5 ?_ ?_ | refine sp6 ?_ ?_ | refine sp7 ?_ ?_) <;> intro hb) <;> (simp only [go_sem, hb, hcs, hw1, hlen, hcap])) | ((first | refine wm_done ?_ | refine wt_done ?_ | refine wg_run ?_ | refine fk ?_ ?_) <;> (simp only [go_sem, hcs, hw1, hlen, hcap])))
        refine hG (k + 1, _, _) _ _ ⟨by omega, ?_⟩ (by simp only; omega) (head_all (by (simp only [go_sem]); first | done | rfl) ⟨rfl, rfl⟩)
        simp only [tyR_take hk1]
        exact hy _
      · have hj2 := fun U => get_app hj U
        rw [tyR_length, hlen] at hrl hpos hy
        (simp only [go_sem, hcs, hj2, hlen])
        repeat' (first | (simp only [go_sem, hcs, hw1, hlen, hcap, hj2, hrl, hrs]) | (((first | refine sp1 ?_ ?_ | refine sp2 ?_ ?_ | refine sp3 ?_ ?_ | refine sp4 ?_ ?_ | refine sp5 ?_ ?_ | refine sp6 ?_ ?_ | refine sp7 ?_ ?_) <;> intro hb) <;> (simp only [go_sem, hb, hcs, hw1, hlen, hcap, hj2, hrl, hrs])) | ((first | refine wm_done ?_ | refine wt_done ?_ | refine wg_run ?_ | refine fk ?_ ?_) <;> (simp only [go_sem, hcs, hw1, hlen, hcap, hj2, hrl, hrs])))
        refine hG (k + 1, _, _) _ _ ⟨by omega, ?_⟩ (by simp only; omega) (head_all (by (simp only [go_sem]); first | done | rfl) ⟨rfl, rfl⟩)
        simp only [tyR_take hk1]
        exact hy _
    · have hk1 : k = t.kids.length := by have := of_decide_eq_false hb; omega
      rw [hk1, List.take_length] at hI
      obtain ⟨d, js, h1, h2, h3⟩ := hI.ow
      refine hR _ (ret_ownK (d := d) (ids := js) (by (simp only [go_sem]); first | done | rfl) ?_ h2 (fun _ => prVs_agg))
      rw [tyC_eq]
      exact owL_two (h1 [_, _, _] rfl)
end Go.Proofs.Ytchcbfbnffhifaa
/- Coercions as trees, and their pure functions. No program, no world. -/
namespace Go.Proofs.Grad

/-- coercions as they come -/
inductive Co where
  | mk (k tag label : Int) (kids : List Co)
def Co.kind : Co → Int | .mk k _ _ _ => k
def Co.tag : Co → Int | .mk _ t _ _ => t
def Co.label : Co → Int | .mk _ _ l _ => l
def Co.kids : Co → List Co | .mk _ _ _ l => l
mutual
def Co.size : Co → Nat
  | .mk _ _ _ l => 1 + Co.sizes l
def Co.sizes : List Co → Nat
  | [] => 0
  | t :: l => t.size + Co.sizes l
end
theorem Co.eta (c : Co) : c = .mk c.kind c.tag c.label c.kids := by cases c; rfl

/-- coercions that are valid but for depth and labels, where of a form -/
inductive K where
  | id (g : Int) | fn (a b : K) | pr (a b : K) | inj (c : K) | prj (l : Int) (c : K) | fail (l g : Int)
def K.co : K → Co
  | .id g => .mk 1 g 0 []
  | .fn a b => .mk 2 0 0 [a.co, b.co]
  | .pr a b => .mk 3 0 0 [a.co, b.co]
  | .inj c => .mk 4 0 0 [c.co]
  | .prj l c => .mk 5 0 l [c.co]
  | .fail l g => .mk 6 g l []
def K.plain : K → Bool
  | .fn _ _ => true | .pr _ _ => true | .id g => g != 1 | _ => false
def K.isAny : K → Bool
  | .id g => g == 1 | _ => false
def K.isPrj : K → Bool
  | .prj _ _ => true | _ => false
/-- a label -/
def lab (n : Int) : Bool := (decide (1 ≤ n) && decide (n ≤ 99)) || (decide (-99 ≤ n) && decide (n ≤ -1))
def K.wf : K → Bool
  | .id g => decide (1 ≤ g) && decide (g ≤ 3)
  | .fn a b => a.wf && b.wf
  | .pr a b => a.wf && b.wf
  | .inj c => c.plain && c.wf
  | .prj l c => lab l && !c.isPrj && !c.isAny && c.wf
  | .fail l g => lab l && decide (2 ≤ g) && decide (g ≤ 5)
def K.depth : K → Nat
  | .id _ => 1 | .fail _ _ => 1
  | .fn a b => max a.depth b.depth + 1
  | .pr a b => max a.depth b.depth + 1
  | .inj c => c.depth + 1
  | .prj _ c => c.depth + 1
def K.size : K → Nat
  | .id _ => 1 | .fail _ _ => 1
  | .fn a b => a.size + b.size + 1
  | .pr a b => a.size + b.size + 1
  | .inj c => c.size + 1
  | .prj _ c => c.size + 1
def K.tag : K → Int
  | .id g => g | .fn _ _ => 4 | .pr _ _ => 5 | .inj c => c.tag | .prj _ _ => 0 | .fail _ g => g
def K.height : K → Nat
  | .id _ => 1 | .fail _ _ => 1
  | .fn a b => max a.height b.height + 1
  | .pr a b => max a.height b.height + 1
  | .inj c => c.height
  | .prj _ c => c.height
def K.labels : K → List Int
  | .id _ => [] | .fail l _ => [l]
  | .fn a b => a.labels ++ b.labels
  | .pr a b => a.labels ++ b.labels
  | .inj c => c.labels
  | .prj l c => l :: c.labels
def K.ident : K → Bool
  | .id _ => true | .fn a b => a.ident && b.ident | .pr a b => a.ident && b.ident | _ => false
theorem K.size_pos (c : K) : 0 < c.size := by cases c <;> simp [K.size]
/-- first a, then b, where they fit -/
def K.comp (a b : K) : Option K :=
  match a, b with
  | .id g, b => if g = 1 then (if b.isPrj || b.isAny then some b else none) else
      match b with
      | .fail l t => if g = t then some (.fail l t) else none
      | .inj c => (K.comp (.id g) c).map .inj
      | .id g' => if g = g' then some (.id g) else none
      | _ => none
  | .prj l c, b => (K.comp c b).map (.prj l)
  | .fail l g, _ => some (.fail l g)
  | .inj c, .prj l d => if c.tag = d.tag then K.comp c d else some (.fail l c.tag)
  | .inj c, b => if b.isAny then some (.inj c) else none
  | .fn a1 a2, .fail l t => if t = 4 then some (.fail l t) else none
  | .pr a1 a2, .fail l t => if t = 5 then some (.fail l t) else none
  | .fn a1 a2, .inj c => (K.comp (.fn a1 a2) c).map .inj
  | .pr a1 a2, .inj c => (K.comp (.pr a1 a2) c).map .inj
  | .fn a1 a2, .fn b1 b2 => match K.comp b1 a1, K.comp a2 b2 with | some x, some y => some (.fn x y) | _, _ => none
  | .pr a1 a2, .pr b1 b2 => match K.comp a1 b1, K.comp a2 b2 with | some x, some y => some (.pr x y) | _, _ => none
  | _, _ => none
termination_by a.size + b.size
decreasing_by all_goals (simp only [K.size]; omega)

/-! ### Coercions as they come -/
mutual
def Co.same : Co → Co → Bool
  | .mk k t l a, .mk k' t' l' b => k == k' && (t == t' && (l == l' && Co.sames a b))
def Co.sames : List Co → List Co → Bool
  | [], [] => true
  | a :: l, b :: m => a.same b && Co.sames l m
  | _, _ => false
end
mutual
theorem Co.same_iff : ∀ a b : Co, a.same b = true ↔ a = b
  | .mk k t l a, .mk k' t' l' b => by simp [Co.same, Co.sames_iff a b]
theorem Co.sames_iff : ∀ a b : List Co, Co.sames a b = true ↔ a = b
  | [], [] => by simp [Co.sames]
  | [], _ :: _ => by simp [Co.sames]
  | _ :: _, [] => by simp [Co.sames]
  | a :: l, b :: m => by simp [Co.sames, Co.same_iff a b, Co.sames_iff l m]
end
theorem Co.same_refl (a : Co) : a.same a = true := (Co.same_iff a a).2 rfl
def Co.plain (c : Co) : Bool := c.kind == 2 || (c.kind == 3 || (c.kind == 1 && c.tag != 1))
def Co.okN (c : Co) : Bool :=
  match c with
  | .mk k t l ks =>
    if k = 1 then ks.length == 0 && (l == 0 && (decide (1 ≤ t) && decide (t ≤ 3)))
    else if k = 2 ∨ k = 3 then ks.length == 2 && (l == 0 && t == 0)
    else if k = 4 then (match ks with | [c] => l == 0 && (t == 0 && c.plain) | _ => false)
    else if k = 5 then (match ks with | [c] => lab l && (t == 0 && (c.kind != 5 && (c.kind != 1 || c.tag != 1))) | _ => false)
    else if k = 6 then ks.length == 0 && (lab l && (decide (2 ≤ t) && decide (t ≤ 5)))
    else false
def Co.shape : Nat → Co → Bool
  | 0, _ => false
  | d + 1, c => c.okN && c.kids.all (Co.shape d)
def Co.valid (c : Co) : Bool := c.shape 9

theorem K.co_plain (k : K) : k.co.plain = k.plain := by cases k <;> simp [K.co, Co.plain, Co.kind, Co.tag, K.plain]
theorem K.co_any (k : K) : (k.co.kind == 1 && k.co.tag == 1) = k.isAny := by cases k <;> simp [K.co, Co.kind, Co.tag, K.isAny]
theorem K.co_prj (k : K) : (k.co.kind == 5) = k.isPrj := by cases k <;> simp [K.co, Co.kind, K.isPrj]
theorem K.shape_co : ∀ (k : K) (d : Nat), k.co.shape d = (k.wf && decide (k.depth ≤ d))
  | k, 0 => by cases k <;> simp [Co.shape, K.depth]
  | .id g, d + 1 => by simp [K.co, Co.shape, Co.okN, Co.kids, K.wf, K.depth]
  | .fail l g, d + 1 => by simp [K.co, Co.shape, Co.okN, Co.kids, K.wf, K.depth, Bool.and_assoc]
  | .fn a b, d + 1 => by
    simp only [K.co, Co.shape, Co.okN, Co.kids, K.wf, K.depth, List.all_cons, List.all_nil, K.shape_co a d, K.shape_co b d]
    rw [Bool.eq_iff_iff]; simp; grind
  | .pr a b, d + 1 => by
    simp only [K.co, Co.shape, Co.okN, Co.kids, K.wf, K.depth, List.all_cons, List.all_nil, K.shape_co a d, K.shape_co b d]
    rw [Bool.eq_iff_iff]; simp; grind
  | .inj a, d + 1 => by
    simp only [K.co, Co.shape, Co.okN, Co.kids, K.wf, K.depth, List.all_cons, List.all_nil, K.shape_co a d, K.co_plain]
    rw [Bool.eq_iff_iff]; simp; grind
  | .prj l a, d + 1 => by
    have h1 := K.co_any a
    have h2 := K.co_prj a
    simp only [K.co, Co.shape, Co.okN, Co.kids, K.wf, K.depth, List.all_cons, List.all_nil, K.shape_co a d, ← h1, ← h2]
    rw [Bool.eq_iff_iff]; simp [bne]; grind
theorem Co.shape_K : ∀ (d : Nat) (c : Co), c.shape d = true → ∃ k : K, k.co = c ∧ k.wf = true ∧ k.depth ≤ d := by
  intro d
  induction d with
  | zero => intro c h; simp [Co.shape] at h
  | succ d ih =>
    intro c h
    obtain ⟨k, t, l, ks⟩ := c
    have h0 := h
    simp only [Co.shape, Bool.and_eq_true, Co.kids, List.all_eq_true] at h
    obtain ⟨h1, h2⟩ := h
    have fin : ∀ x : K, x.co = Co.mk k t l ks → ∃ k' : K, k'.co = Co.mk k t l ks ∧ k'.wf = true ∧ k'.depth ≤ d + 1 := by
      intro x hx
      rw [← hx, K.shape_co] at h0
      simp only [Bool.and_eq_true, decide_eq_true_eq] at h0
      exact ⟨x, hx, h0.1, h0.2⟩
    simp only [Co.okN] at h1
    split at h1
    · rename_i hk; simp at h1
      obtain ⟨rfl, rfl, _⟩ := h1
      subst hk
      exact fin (.id t) rfl
    · split at h1
      · rename_i hk; simp at h1
        obtain ⟨hl, rfl, rfl⟩ := h1
        obtain ⟨a, b, rfl⟩ : ∃ a b, ks = [a, b] := by
          match ks, hl with
          | [a, b], _ => exact ⟨a, b, rfl⟩
        obtain ⟨x, hx, _⟩ := ih a (h2 a (by simp))
        obtain ⟨y, hy, _⟩ := ih b (h2 b (by simp))
        rcases hk with rfl | rfl
        · exact fin (.fn x y) (by rw [K.co, hx, hy])
        · exact fin (.pr x y) (by rw [K.co, hx, hy])
      · split at h1
        · rename_i hk; subst hk
          split at h1
          · rename_i a; simp at h1
            obtain ⟨rfl, rfl, _⟩ := h1
            obtain ⟨x, hx, _⟩ := ih a (h2 a (by simp))
            exact fin (.inj x) (by rw [K.co, hx])
          · cases h1
        · split at h1
          · rename_i hk; subst hk
            split at h1
            · rename_i a; simp at h1
              obtain ⟨_, rfl, _⟩ := h1
              obtain ⟨x, hx, _⟩ := ih a (h2 a (by simp))
              exact fin (.prj l x) (by rw [K.co, hx])
            · cases h1
          · split at h1
            · rename_i hk; subst hk
              simp at h1
              obtain ⟨rfl, _⟩ := h1
              exact fin (.fail l t) rfl
            · cases h1
theorem Co.valid_iff (c : Co) : c.valid = true ↔ ∃ k : K, k.co = c ∧ k.wf = true ∧ k.depth ≤ 9 :=
  ⟨Co.shape_K 9 c, fun ⟨k, e, h1, h2⟩ => by rw [← e, Co.valid, K.shape_co, h1]; simpa using h2⟩
end Go.Proofs.Grad
/- Relations on types that are valid. No program, no world. -/
namespace Go.Proofs.Grad
open Classical in
/-- the relation, where both types are valid -/
noncomputable def onT (R : T → T → Bool) (a b : Ty) : Bool := decide (∃ x y : T, x.ty = a ∧ y.ty = b ∧ x.depth ≤ 4 ∧ y.depth ≤ 4 ∧ R x y = true)

open Classical in
theorem onT_ty (R : T → T → Bool) {x y : T} (hx : x.depth ≤ 4) (hy : y.depth ≤ 4) : onT R x.ty y.ty = R x y := by
  unfold onT
  rw [Bool.eq_iff_iff, decide_eq_true_iff]
  constructor
  · rintro ⟨x', y', h1, h2, _, _, h⟩
    rw [← T.ty_inj _ _ h1, ← T.ty_inj _ _ h2]; exact h
  · intro h; exact ⟨x, y, rfl, rfl, hx, hy, h⟩
open Classical in
theorem onT_off (R : T → T → Bool) {a b : Ty} (h : (a.valid && b.valid) = false) : onT R a b = false := by
  unfold onT
  rw [decide_eq_false_iff_not]
  rintro ⟨x, y, rfl, rfl, hx, hy, _⟩
  simp [Ty.valid, T.shape_ty, hx, hy] at h
theorem onT_and (R : T → T → Bool) (a b : Ty) : onT R a b = (a.valid && (b.valid && onT R a b)) := by
  cases ha : a.valid
  · rw [onT_off R (by simp [ha])]; rfl
  · cases hb : b.valid
    · rw [onT_off R (by simp [hb])]; rfl
    · rfl
end Go.Proofs.Grad
/- Terms as trees, their checks and their forms. No program, no world. -/
namespace Go.Proofs.Grad

/-- terms as they come -/
inductive Tm where
  | mk (kind : Int) (name : ByteArray) (num : Int) (type frm : Ty) (label : Int) (kids : List Tm)
def Tm.kind : Tm → Int | .mk k _ _ _ _ _ _ => k
def Tm.name : Tm → ByteArray | .mk _ n _ _ _ _ _ => n
def Tm.num : Tm → Int | .mk _ _ n _ _ _ _ => n
def Tm.type : Tm → Ty | .mk _ _ _ t _ _ _ => t
def Tm.frm : Tm → Ty | .mk _ _ _ _ t _ _ => t
def Tm.label : Tm → Int | .mk _ _ _ _ _ l _ => l
def Tm.kids : Tm → List Tm | .mk _ _ _ _ _ _ l => l
theorem Tm.eta (t : Tm) : t = .mk t.kind t.name t.num t.type t.frm t.label t.kids := by cases t; rfl
mutual
def Tm.size : Tm → Nat
  | .mk _ _ _ t f _ l => 1 + (t.size + f.size + Tm.sizes l)
def Tm.sizes : List Tm → Nat
  | [] => 0
  | t :: l => t.size + Tm.sizes l
end
mutual
def Tm.nodes : Tm → Nat
  | .mk _ _ _ _ _ _ l => 1 + Tm.nodess l
def Tm.nodess : List Tm → Nat
  | [] => 0
  | t :: l => t.nodes + Tm.nodess l
end
mutual
theorem Tm.nodes_le : ∀ t : Tm, t.nodes ≤ t.size
  | .mk _ _ _ _ _ _ l => by have := Tm.nodess_le l; simp only [Tm.nodes, Tm.size]; omega
theorem Tm.nodess_le : ∀ l : List Tm, Tm.nodess l ≤ Tm.sizes l
  | [] => Nat.le_refl _
  | t :: l => by have := Tm.nodes_le t; have := Tm.nodess_le l; simp only [Tm.nodess, Tm.sizes]; omega
end
theorem Tm.nodes_eq (t : Tm) : t.nodes = 1 + Tm.nodess t.kids := by cases t; simp only [Tm.nodes, Tm.kids]
theorem bytes_ext {a b : ByteArray} (h : a.toList = b.toList) : a = b := by
  rw [Go.ByteArray.toList_eq, Go.ByteArray.toList_eq] at h
  obtain ⟨⟨a⟩⟩ := a; obtain ⟨⟨b⟩⟩ := b
  simp at h; subst h; rfl
mutual
def Tm.same : Tm → Tm → Bool
  | .mk k n m t f l a, .mk k' n' m' t' f' l' b => k == k' && (n.toList == n'.toList && (m == m' && (t.same t' && (f.same f' && (l == l' && Tm.sames a b)))))
def Tm.sames : List Tm → List Tm → Bool
  | [], [] => true
  | a :: l, b :: m => a.same b && Tm.sames l m
  | _, _ => false
end
mutual
theorem Tm.same_iff : ∀ a b : Tm, a.same b = true ↔ a = b
  | .mk k n m t f l a, .mk k' n' m' t' f' l' b => by
    simp only [Tm.same, Bool.and_eq_true, beq_iff_eq, Ty.same_iff, Tm.sames_iff a b, Tm.mk.injEq]
    exact ⟨fun ⟨h1, h2, h3, h4, h5, h6, h7⟩ => ⟨h1, bytes_ext h2, h3, h4, h5, h6, h7⟩, fun ⟨h1, h2, h3, h4, h5, h6, h7⟩ => ⟨h1, by rw [h2], h3, h4, h5, h6, h7⟩⟩
theorem Tm.sames_iff : ∀ a b : List Tm, Tm.sames a b = true ↔ a = b
  | [], [] => by simp [Tm.sames]
  | [], _ :: _ => by simp [Tm.sames]
  | _ :: _, [] => by simp [Tm.sames]
  | a :: l, b :: m => by simp [Tm.sames, Tm.same_iff a b, Tm.sames_iff l m]
end
theorem Tm.same_refl (a : Tm) : a.same a = true := (Tm.same_iff a a).2 rfl

/-! ### checks of a node -/
/-- a name -/
def nmOk (s : ByteArray) : Bool := s.size == 1 && (match s[0]? with | some b => decide (97 ≤ (b.toNat : Int)) && decide ((b.toNat : Int) ≤ 122) | none => false)
def nm (b : UInt8) : ByteArray := ⟨#[b]⟩
def nmB (b : UInt8) : Bool := decide (97 ≤ (b.toNat : Int)) && decide ((b.toNat : Int) ≤ 122)
theorem nmOk_nm (b : UInt8) : nmOk (nm b) = nmB b := rfl
theorem nm_size (b : UInt8) : (nm b).size = 1 := rfl
theorem bs_empty_size : ByteArray.empty.size = 0 := rfl
theorem size_mk (l : Array UInt8) : (ByteArray.mk l).size = l.size := rfl
theorem nmOk_some {s : ByteArray} (h : nmOk s = true) : ∃ b, s = nm b ∧ nmB b = true := by
  obtain ⟨⟨l⟩⟩ := s
  match l, h with
  | [b], h => exact ⟨b, rfl, by rw [← nmOk_nm]; exact h⟩
  | [], h => rw [nmOk, size_mk] at h; simp at h
  | _ :: _ :: _, h => rw [nmOk, size_mk] at h; simp at h
/-- how many operands -/
def opN (k : Int) : Int := if k = 1 then 0 else if k = 2 then 0 else if k = 3 then 0 else if k = 4 then 0 else if k = 5 then 1 else if k = 6 then 2 else if k = 7 then 2 else if k = 8 then 2 else if k = 9 then 3 else if k = 10 then 2 else if k = 11 then 1 else if k = 12 then 1 else if k = 13 then 1 else if k = 14 then 1 else -1
def noTy : Ty := .mk 0 []
def Ty.isNo (t : Ty) : Bool := t.kind == 0 && t.kids.length == 0
theorem Ty.isNo_iff {t : Ty} (h : t.isNo = true) : t = noTy := by
  obtain ⟨k, l⟩ := t
  simp only [Ty.isNo, Ty.kind, Ty.kids, Bool.and_eq_true, beq_iff_eq] at h
  rw [h.1, List.eq_nil_of_length_eq_zero h.2]; rfl
noncomputable def Tm.nodeOk (t : Tm) : Bool :=
  opN t.kind == (t.kids.length : Int) &&
  ((if t.kind = 1 ∨ t.kind = 5 then nmOk t.name else t.name.size == 0) &&
  ((decide (0 ≤ t.num) && decide (t.num ≤ if t.kind = 2 then 999 else 0)) &&
  ((if t.kind = 5 ∨ t.kind = 13 ∨ t.kind = 14 then t.type.valid else t.type.isNo) &&
  (if t.kind = 14 then onT T.cons t.frm t.type && lab t.label else t.frm.isNo && t.label == 0))))
noncomputable def Tm.shape (no : Int) : Nat → Tm → Bool
  | 0, _ => false
  | d + 1, t => t.kind != no && (t.nodeOk && t.kids.all (Tm.shape no d))
noncomputable def Tm.termV (t : Tm) : Bool := t.shape 14 12 && decide (t.nodes ≤ 30)
noncomputable def Tm.castV (t : Tm) : Bool := t.shape 13 40 && decide (t.nodes ≤ 200)

/-! ### forms -/
inductive E where
  | var (x : UInt8) | num (n : Int) | tru | fls | lam (x : UInt8) (t : T) (e : E) | app (a b : E) | add (a b : E) | less (a b : E) | ite (a b c : E) | pair (a b : E) | fst (a : E) | snd (a : E) | asc (t : T) (a : E) | cast (s t : T) (l : Int) (a : E)
/-- a node with no name, no number, no types, no label -/
def nd (k : Int) (l : List Tm) : Tm := .mk k ByteArray.empty 0 noTy noTy 0 l
def E.tm : E → Tm
  | .var x => .mk 1 (nm x) 0 noTy noTy 0 []
  | .num n => .mk 2 ByteArray.empty n noTy noTy 0 []
  | .tru => nd 3 []
  | .fls => nd 4 []
  | .lam x t e => .mk 5 (nm x) 0 t.ty noTy 0 [e.tm]
  | .app a b => nd 6 [a.tm, b.tm]
  | .add a b => nd 7 [a.tm, b.tm]
  | .less a b => nd 8 [a.tm, b.tm]
  | .ite a b c => nd 9 [a.tm, b.tm, c.tm]
  | .pair a b => nd 10 [a.tm, b.tm]
  | .fst a => nd 11 [a.tm]
  | .snd a => nd 12 [a.tm]
  | .asc t a => .mk 13 ByteArray.empty 0 t.ty noTy 0 [a.tm]
  | .cast s t l a => .mk 14 ByteArray.empty 0 t.ty s.ty l [a.tm]
def E.kids : E → List E
  | .var _ | .num _ | .tru | .fls => []
  | .lam _ _ a | .fst a | .snd a | .asc _ a | .cast _ _ _ a => [a]
  | .app a b | .add a b | .less a b | .pair a b => [a, b]
  | .ite a b c => [a, b, c]
def E.wf : E → Bool
  | .var x => nmB x
  | .num n => decide (0 ≤ n) && decide (n ≤ 999)
  | .tru | .fls => true
  | .lam x t a => nmB x && (decide (t.depth ≤ 4) && a.wf)
  | .app a b | .add a b | .less a b | .pair a b => a.wf && b.wf
  | .ite a b c => a.wf && (b.wf && c.wf)
  | .fst a | .snd a => a.wf
  | .asc t a => decide (t.depth ≤ 4) && a.wf
  | .cast s t l a => (decide (s.depth ≤ 4) && decide (t.depth ≤ 4)) && (s.cons t && (lab l && a.wf))
/-- no casts; no annotations -/
def E.noC : E → Bool
  | .var _ | .num _ | .tru | .fls => true
  | .lam _ _ a | .fst a | .snd a | .asc _ a => a.noC
  | .app a b | .add a b | .less a b | .pair a b => a.noC && b.noC
  | .ite a b c => a.noC && (b.noC && c.noC)
  | .cast _ _ _ _ => false
def E.noA : E → Bool
  | .var _ | .num _ | .tru | .fls => true
  | .lam _ _ a | .fst a | .snd a | .cast _ _ _ a => a.noA
  | .app a b | .add a b | .less a b | .pair a b => a.noA && b.noA
  | .ite a b c => a.noA && (b.noA && c.noA)
  | .asc _ _ => false
def E.depth : E → Nat
  | .var _ | .num _ | .tru | .fls => 1
  | .lam _ _ a | .fst a | .snd a | .asc _ a | .cast _ _ _ a => a.depth + 1
  | .app a b | .add a b | .less a b | .pair a b => max a.depth b.depth + 1
  | .ite a b c => max a.depth (max b.depth c.depth) + 1
def E.nodes : E → Nat
  | .var _ | .num _ | .tru | .fls => 1
  | .lam _ _ a | .fst a | .snd a | .asc _ a | .cast _ _ _ a => 1 + a.nodes
  | .app a b | .add a b | .less a b | .pair a b => 1 + (a.nodes + b.nodes)
  | .ite a b c => 1 + (a.nodes + (b.nodes + c.nodes))
theorem E.nodes_pos (e : E) : 0 < e.nodes := by cases e <;> simp only [E.nodes] <;> omega
theorem E.depth_nodes (e : E) : e.depth ≤ e.nodes := by
  induction e <;> simp only [E.depth, E.nodes] <;> omega
theorem E.tm_nodes (e : E) : e.tm.nodes = e.nodes := by
  induction e <;> simp only [E.tm, nd, Tm.nodes, Tm.nodess, E.nodes, *] <;> omega
theorem noTy_isNo : noTy.isNo = true := rfl
theorem noTy_eq : (noTy : Ty) = .mk 0 [] := rfl
theorem onT_cons_ty (x y : T) : onT T.cons x.ty y.ty = (decide (x.depth ≤ 4) && (decide (y.depth ≤ 4) && x.cons y)) := by
  have h : ∀ t : T, t.ty.valid = decide (t.depth ≤ 4) := fun t => T.shape_ty t 4
  by_cases hx : x.depth ≤ 4
  · by_cases hy : y.depth ≤ 4
    · rw [onT_ty _ hx hy]; simp [hx, hy]
    · rw [onT_off _ (by simp [h, hy])]; simp [hy]
  · rw [onT_off _ (by simp [h, hx])]; simp [hx]
theorem T.valid_ty (t : T) : t.ty.valid = decide (t.depth ≤ 4) := T.shape_ty t 4
theorem E.nodeOk_tm (e : E) : e.tm.nodeOk = (match e with
  | .var x => nmB x | .num n => decide (0 ≤ n) && decide (n ≤ 999) | .lam x t _ => nmB x && decide (t.depth ≤ 4) | .asc t _ => decide (t.depth ≤ 4)
  | .cast s t l _ => (decide (s.depth ≤ 4) && decide (t.depth ≤ 4)) && (s.cons t && lab l) | _ => true) := by
  cases e <;> simp [Tm.nodeOk, E.tm, nd, Tm.kind, Tm.name, Tm.num, Tm.type, Tm.frm, Tm.label, Tm.kids, opN, nmOk_nm, noTy_isNo, T.valid_ty, onT_cons_ty, bs_empty_size, -ByteArray.size_data]
  all_goals (try grind)
end Go.Proofs.Grad
