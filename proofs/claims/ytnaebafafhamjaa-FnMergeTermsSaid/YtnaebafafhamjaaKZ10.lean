/- Texts of the proof, one behind another. -/
import Derived.Laws.Strings
import Derived.Test.YtnaebafafhamjaaKZ9
set_option linter.unusedSimpArgs false
set_option linter.unusedVariables false
/- Types: the program's checks, on shadows. -/
namespace Go.Proofs.Sh
open Go.Proofs.Grad
theorem all2_kid {f : Ty → Ty → Bool} {a b : List Ty} {i : Nat} (ha : i < a.length) (hb : i < b.length) : all2 f (a.drop i) (b.drop i) = (f (kid a i) (kid b i) && all2 f (a.drop (i + 1)) (b.drop (i + 1))) := by
  rw [all2_drop ha hb, kid_eq ha, kid_eq hb]
theorem all2_end {f : Ty → Ty → Bool} {a b : List Ty} {i : Nat} (ha : ¬ i < a.length) (hb : a.length = b.length) : all2 f (a.drop i) (b.drop i) = true := by
  rw [List.drop_eq_nil_of_le (by omega), List.drop_eq_nil_of_le (by omega)]; rfl
end Go.Proofs.Sh
namespace Go.Proofs.Ytnaebafafhamjaa
open Go.RowKit Go.Proofs.Sh Go.Proofs.Grad
set_option maxRecDepth 100000
set_option maxHeartbeats 4000000
theorem eqFunc (g : FuncId) (Q : Ty → Ty → Bool) (l m : List Ty) (hl : l.length < 4611686018427387904)
    (hg : ∀ k, k < l.length → k < m.length → AFn Try.prog g [.agg (tyC (kid l k)), .agg (tyC (kid m k))] (.one (.sc (.bool (Q (kid l k) (kid m k)))))) :
    AFn Try.prog 91 [.one (.sl (tyR l)), .one (.sl (tyR m)), .one (.fn g [])] (.one (.sc (.bool (all2 Q l m)))) := by
  refine fn_in ?_; refine acl_in Try.func91 rfl isfn_91 (Nat.le_of_ble_eq_true rfl) (fun R hR => ?_); rw [Try.results91] at hR; refine wg_run ?_; (simp only [Try.f91, go_sem])
  repeat' (first | (((first | apply sp1 | apply sp2 | apply sp3 | apply sp4 | apply sp5 | apply sp6 | apply sp7) <;> intro hb) <;> (simp only [go_sem, hb])) | ((first | apply wm_done | apply wt_done | apply wg_run | refine fk ?_ ?_) <;> (simp only [go_sem])))
  · (refine hR _ (rat [] (hK := ⟨?_, rfl⟩)))
    rw [all2_len]
    intro h; simp [h] at hb
  · have hlm : l.length = m.length := by simp at hb; omega
    clear hb
    refine wd_for [0, 1, 2, 15, 16, 17] (fun k => [.one (.sl (tyR l)), .one (.sl (tyR m)), .one (.fn g []), .one (.sl (tyR l)), .one (.sc (.int .i64 l.length)), .one (.sc (.int .i64 (k : Nat)))]) (fun k => [])
      (fun k => k ≤ l.length ∧ all2 Q (l.drop k) (m.drop k) = all2 Q l m) (fun k => l.length - k) 0 ⟨Nat.zero_le _, rfl⟩ (hat [] (hI := ⟨rfl, rfl⟩)) ?_
    rintro k ⟨hk, hs⟩ G hG
    refine wg_run ?_
    (simp only [go_sem])
    ((first | apply sp1 | apply sp2 | apply sp3 | apply sp4 | apply sp5 | apply sp6 | apply sp7) <;> intro hb) <;> (simp only [go_sem, hb])
    · have hk1 : k < l.length := by have := of_decide_eq_true hb; omega
      have hk2 : decide ((k : Int) < (m.length : Int)) = true := by simp; omega
      rw [all2_kid hk1 (by omega)] at hs
      have hw1 := wrap_succ hk1 (by omega)
      (simp only [go_sem, hk2])
      (first | refine cdq ?_ (hc := hg k hk1 (by omega)) | refine cmq ?_ (hc := hg k hk1 (by omega)) | refine ctq ?_ (hc := hg k hk1 (by omega))); (simp only [go_sem])
      repeat' (first | (simp only [go_sem, hw1]) | (((first | apply sp1 | apply sp2 | apply sp3 | apply sp4 | apply sp5 | apply sp6 | apply sp7) <;> intro hb) <;> (simp only [go_sem, hb, hw1])) | ((first | apply wm_done | apply wt_done | apply wg_run | refine fk ?_ ?_) <;> (simp only [go_sem, hw1])))
      · exact hG (k + 1) _ _ ⟨by omega, by simpa [hb] using hs⟩ (by omega) (hat [] (hI := ⟨rfl, rfl⟩))
      · (refine hR _ (rat [] (hK := ⟨?_, rfl⟩)))
        simpa [hb] using hs
    · have hk1 : ¬ k < l.length := by have := of_decide_eq_false hb; omega
      rw [all2_end hk1 hlm] at hs
      (refine hR _ (rat [] (hK := ⟨?_, rfl⟩)))
      simpa using hs
theorem iSame (n : Nat) (hn : n ≤ 4611686018427387904) : ∀ a b : Ty, a.size < n → AFn Try.prog 47 [.agg (tyC a), .agg (tyC b)] (.one (.sc (.bool (a.same b)))) := by
  induction n with
  | zero => intro a b h; omega
  | succ n ih =>
    intro a b h
    have hl : a.kids.length < 4611686018427387904 := by have := Ty.length_le_sizes a.kids; cases a; simp only [Ty.size, Ty.kids] at *; omega
    have hk : ∀ k, k < a.kids.length → k < b.kids.length → AFn Try.prog 47 [.agg (tyC (kid a.kids k)), .agg (tyC (kid b.kids k))] (.one (.sc (.bool ((kid a.kids k).same (kid b.kids k))))) := fun k h1 h2 => ih (by omega) _ _ (by have := kid_lt h1; omega)
    have hf := eqFunc _ Ty.same a.kids b.kids hl hk
    clear hk ih
    rw [Ty.same_eq, Ty.sames_all2]
    refine fn_in ?_; refine acl_in Try.func47 rfl isfn_47 (Nat.le_of_ble_eq_true rfl) (fun R hR => ?_); rw [Try.results47] at hR; refine wg_run ?_; (simp only [Try.f47, go_sem])
    repeat' (first | (first | (((first | apply sp1 | apply sp2 | apply sp3 | apply sp4 | apply sp5 | apply sp6 | apply sp7) <;> intro hb) <;> (simp only [go_sem, hb])) | ((first | apply wm_done | apply wt_done | apply wg_run | refine fk ?_ ?_) <;> (simp only [go_sem]))) | (first | refine cdq ?_ (hc := hf) | refine cmq ?_ (hc := hf) | refine ctq ?_ (hc := hf)); (simp only [go_sem]) | ((first | refine mxq6 [] ?_ | refine mxq5 [] ?_ | refine mxq4 [] ?_ | refine mxq3 [] ?_ | refine mxq2 [] ?_ | refine mxq1 [] ?_ | refine mxq0 [] ?_ | fail); (simp only [go_sem])))
    all_goals (refine hR _ (rat [] (hK := ⟨?_, rfl⟩)))
    all_goals simp_all
theorem iCons (n : Nat) (hn : n ≤ 4611686018427387904) : ∀ a b : Ty, a.size < n → AFn Try.prog 36 [.agg (tyC a), .agg (tyC b)] (.one (.sc (.bool (a.cons b)))) := by
  induction n with
  | zero => intro a b h; omega
  | succ n ih =>
    intro a b h
    have hl : a.kids.length < 4611686018427387904 := by have := Ty.length_le_sizes a.kids; cases a; simp only [Ty.size, Ty.kids] at *; omega
    have hk : ∀ k, k < a.kids.length → k < b.kids.length → AFn Try.prog 36 [.agg (tyC (kid a.kids k)), .agg (tyC (kid b.kids k))] (.one (.sc (.bool ((kid a.kids k).cons (kid b.kids k))))) := fun k h1 h2 => ih (by omega) _ _ (by have := kid_lt h1; omega)
    have hf := eqFunc _ Ty.cons a.kids b.kids hl hk
    clear hk ih
    rw [Ty.cons_eq]
    refine fn_in ?_; refine acl_in Try.func36 rfl isfn_36 (Nat.le_of_ble_eq_true rfl) (fun R hR => ?_); rw [Try.results36] at hR; refine wg_run ?_; (simp only [Try.f36, go_sem])
    repeat' (first | (first | (((first | apply sp1 | apply sp2 | apply sp3 | apply sp4 | apply sp5 | apply sp6 | apply sp7) <;> intro hb) <;> (simp only [go_sem, hb])) | ((first | apply wm_done | apply wt_done | apply wg_run | refine fk ?_ ?_) <;> (simp only [go_sem]))) | (first | refine cdq ?_ (hc := hf) | refine cmq ?_ (hc := hf) | refine ctq ?_ (hc := hf)); (simp only [go_sem]) | ((first | refine mxq6 [] ?_ | refine mxq5 [] ?_ | refine mxq4 [] ?_ | refine mxq3 [] ?_ | refine mxq2 [] ?_ | refine mxq1 [] ?_ | refine mxq0 [] ?_ | fail); (simp only [go_sem])))
    all_goals (refine hR _ (rat [] (hK := ⟨?_, rfl⟩)))
    all_goals simp_all
theorem iPrec (n : Nat) (hn : n ≤ 4611686018427387904) : ∀ a b : Ty, a.size < n → AFn Try.prog 49 [.agg (tyC a), .agg (tyC b)] (.one (.sc (.bool (a.prec b)))) := by
  induction n with
  | zero => intro a b h; omega
  | succ n ih =>
    intro a b h
    have hl : a.kids.length < 4611686018427387904 := by have := Ty.length_le_sizes a.kids; cases a; simp only [Ty.size, Ty.kids] at *; omega
    have hk : ∀ k, k < a.kids.length → k < b.kids.length → AFn Try.prog 49 [.agg (tyC (kid a.kids k)), .agg (tyC (kid b.kids k))] (.one (.sc (.bool ((kid a.kids k).prec (kid b.kids k))))) := fun k h1 h2 => ih (by omega) _ _ (by have := kid_lt h1; omega)
    have hf := eqFunc _ Ty.prec a.kids b.kids hl hk
    clear hk ih
    rw [Ty.prec_eq]
    refine fn_in ?_; refine acl_in Try.func49 rfl isfn_49 (Nat.le_of_ble_eq_true rfl) (fun R hR => ?_); rw [Try.results49] at hR; refine wg_run ?_; (simp only [Try.f49, go_sem])
    repeat' (first | (first | (((first | apply sp1 | apply sp2 | apply sp3 | apply sp4 | apply sp5 | apply sp6 | apply sp7) <;> intro hb) <;> (simp only [go_sem, hb])) | ((first | apply wm_done | apply wt_done | apply wg_run | refine fk ?_ ?_) <;> (simp only [go_sem]))) | (first | refine cdq ?_ (hc := hf) | refine cmq ?_ (hc := hf) | refine ctq ?_ (hc := hf)); (simp only [go_sem]) | ((first | refine mxq6 [] ?_ | refine mxq5 [] ?_ | refine mxq4 [] ?_ | refine mxq3 [] ?_ | refine mxq2 [] ?_ | refine mxq1 [] ?_ | refine mxq0 [] ?_ | fail); (simp only [go_sem])))
    all_goals (refine hR _ (rat [] (hK := ⟨?_, rfl⟩)))
    all_goals simp_all
/-- the index of the first one, -1 for none -/
def idx (p : Ty → Bool) : Nat → List Ty → Int
  | _, [] => -1
  | k, t :: l => if p t then (k : Nat) else idx p (k + 1) l
theorem idx_any (p : Ty → Bool) : ∀ (l : List Ty) (k : Nat), decide (0 ≤ idx p k l) = l.any p
  | [], k => by simp [idx]
  | t :: l, k => by
    simp only [idx, List.any_cons]
    split
    · rename_i h; simp [h]
    · rename_i h; rw [idx_any p l (k + 1)]; simp [h]
theorem indexFunc1 (g : FuncId) (d : Int) (p : Ty → Bool) (l : List Ty) (hl : l.length < 4611686018427387904)
    (hg : ∀ k, k < l.length → ACl Try.prog g [.agg (tyC (kid l k)), .one (.ptr 1 0 0 0)] [⟨1, 3, .mut, [[.sc (.int .i64 d)]]⟩] (fun r H' => r = .one (.sc (.bool (p (kid l k)))) ∧ H' = [⟨1, 3, .mut, [[.sc (.int .i64 d)]]⟩])) :
    ACl Try.prog 185 [.one (.sl (tyR l)), .one (.fn g [.ptr 1 0 0 0])] [⟨1, 3, .mut, [[.sc (.int .i64 d)]]⟩] (fun r H' => r = .one (.sc (.int .i64 (idx p 0 l))) ∧ H' = [⟨1, 3, .mut, [[.sc (.int .i64 d)]]⟩]) := by
  refine acl_in Try.func185 rfl isfn_185 (Nat.le_of_ble_eq_true rfl) (fun R hR => ?_); rw [Try.results185] at hR; refine wg_run ?_; (simp only [Try.f185, go_sem])
  refine wd_for [0, 1, 7, 8] (fun k => [.one (.sl (tyR l)), .one (.fn g [.ptr 1 0 0 0]), .one (.sc (.int .i64 l.length)), .one (.sc (.int .i64 (k : Nat)))]) (fun k => [⟨1, 3, .mut, [[.sc (.int .i64 d)]]⟩])
      (fun k => k ≤ l.length ∧ idx p k (l.drop k) = idx p 0 l) (fun k => l.length - k) 0 ⟨Nat.zero_le _, rfl⟩ (hat [] (hI := ⟨rfl, rfl⟩)) ?_
  rintro k ⟨hk, hs⟩ G hG
  refine wg_run ?_
  (simp only [go_sem])
  ((first | apply sp1 | apply sp2 | apply sp3 | apply sp4 | apply sp5 | apply sp6 | apply sp7) <;> intro hb) <;> (simp only [go_sem, hb])
  · have hk1 : k < l.length := by have := of_decide_eq_true hb; omega
    rw [drop_kid hk1, idx] at hs
    have hw1 := wrap_succ hk1 (by omega)
    (first | refine kdq [0] ?_ (hc := hg k hk1) | refine kmq [0] ?_ (hc := hg k hk1) | refine ktq [0] ?_ (hc := hg k hk1)); rintro _ _ ⟨rfl, rfl⟩; (simp only [go_sem])
    repeat' (first | (simp only [go_sem, hw1]) | (((first | apply sp1 | apply sp2 | apply sp3 | apply sp4 | apply sp5 | apply sp6 | apply sp7) <;> intro hb) <;> (simp only [go_sem, hb, hw1])) | ((first | apply wm_done | apply wt_done | apply wg_run | refine fk ?_ ?_) <;> (simp only [go_sem, hw1])))
    · (refine hR _ (rat [] (hK := ⟨?_, ?_⟩)))
      · simpa [hb] using hs
      · rfl
    · exact hG (k + 1) _ _ ⟨by omega, by simpa [hb] using hs⟩ (by omega) (hat [] (hI := ⟨rfl, rfl⟩))
  · have hk1 : ¬ k < l.length := by have := of_decide_eq_false hb; omega
    rw [List.drop_eq_nil_of_le (by omega), idx] at hs
    (refine hR _ (rat [] (hK := ⟨?_, ?_⟩)))
    · rw [← hs]
    · rfl
theorem containsFunc1 (g : FuncId) (d : Int) (p : Ty → Bool) (l : List Ty) (hl : l.length < 4611686018427387904)
    (hg : ∀ k, k < l.length → ACl Try.prog g [.agg (tyC (kid l k)), .one (.ptr 1 0 0 0)] [⟨1, 3, .mut, [[.sc (.int .i64 d)]]⟩] (fun r H' => r = .one (.sc (.bool (p (kid l k)))) ∧ H' = [⟨1, 3, .mut, [[.sc (.int .i64 d)]]⟩])) :
    ACl Try.prog 182 [.one (.sl (tyR l)), .one (.fn g [.ptr 1 0 0 0])] [⟨1, 3, .mut, [[.sc (.int .i64 d)]]⟩] (fun r H' => r = .one (.sc (.bool (l.any p))) ∧ H' = [⟨1, 3, .mut, [[.sc (.int .i64 d)]]⟩]) := by
  have hi := indexFunc1 g d p l hl hg
  refine acl_in Try.func182 rfl isfn_182 (Nat.le_of_ble_eq_true rfl) (fun R hR => ?_); rw [Try.results182] at hR; refine wg_run ?_; (simp only [Try.f182, go_sem])
  (first | refine kdq [0] ?_ (hc := hi) | refine kmq [0] ?_ (hc := hi) | refine ktq [0] ?_ (hc := hi)); rintro _ _ ⟨rfl, rfl⟩; (simp only [go_sem])
  (refine hR _ (rat [] (hK := ⟨?_, ?_⟩)))
  · rw [← idx_any p l 0]
  · rfl
end Go.Proofs.Ytnaebafafhamjaa
/- Relations on types that are valid. No program, no world. -/
namespace Go.Proofs.Grad
open Classical in
/-- the relation, where both types are valid -/
noncomputable def onT (R : T → T → Bool) (a b : Ty) : Bool := decide (∃ x y : T, x.ty = a ∧ y.ty = b ∧ x.depth ≤ 4 ∧ y.depth ≤ 4 ∧ R x y = true)

open Classical in
theorem onT_ty (R : T → T → Bool) {x y : T} (hx : x.depth ≤ 4) (hy : y.depth ≤ 4) : onT R x.ty y.ty = R x y := by
  unfold onT
  rw [Bool.eq_iff_iff, decide_eq_true_iff]
  constructor
  · rintro ⟨x', y', h1, h2, _, _, h⟩
    rw [← T.ty_inj _ _ h1, ← T.ty_inj _ _ h2]; exact h
  · intro h; exact ⟨x, y, rfl, rfl, hx, hy, h⟩
open Classical in
theorem onT_off (R : T → T → Bool) {a b : Ty} (h : (a.valid && b.valid) = false) : onT R a b = false := by
  unfold onT
  rw [decide_eq_false_iff_not]
  rintro ⟨x, y, rfl, rfl, hx, hy, _⟩
  simp [Ty.valid, T.shape_ty, hx, hy] at h
end Go.Proofs.Grad
/- Types: validity in the program; checks behind validity. On shadows. -/
namespace Go.Proofs.Ytnaebafafhamjaa
open Go.RowKit Go.Proofs.Sh Go.Proofs.Grad
set_option maxRecDepth 100000
set_option maxHeartbeats 4000000
theorem iScan (m : Nat) (hm : m ≤ 4) : ∀ t : Ty, AFn Try.prog 175 [.agg (tyC t), .one (.sc (.int .i64 (5 - (m : Int))))] (.one (.sc (.bool (t.shape m)))) := by
  induction m with
  | zero =>
    intro t
    refine fn_in ?_; refine acl_in Try.func175 rfl isfn_175 (Nat.le_of_ble_eq_true rfl) (fun R hR => ?_); rw [Try.results175] at hR; refine wg_run ?_; (simp only [Try.f175, go_sem])
    repeat' (first | (((first | apply sp1 | apply sp2 | apply sp3 | apply sp4 | apply sp5 | apply sp6 | apply sp7) <;> intro hb) <;> (simp only [go_sem, hb])) | ((first | apply wm_done | apply wt_done | apply wg_run | refine fk ?_ ?_) <;> (simp only [go_sem])))
    all_goals (refine hR _ (rat [] (hK := ⟨?_, rfl⟩)))
    all_goals rfl
  | succ m ih =>
    intro t
    have hd : decide (5 - ((m + 1 : Nat) : Int) ≤ 4) = true := by simp; omega
    have hw : IntKind.i64.wrap (5 - ((m + 1 : Nat) : Int) + 1) = 5 - (m : Int) := by rw [IntWalk.i64_in _ (by omega)]; omega
    have hc : t.kids.length < 3 → ACl Try.prog 182 [.one (.sl (tyR t.kids)), .one (.fn 183 [.ptr 1 0 0 0])] [⟨1, 3, .mut, [[.sc (.int .i64 (5 - ((m + 1 : Nat) : Int)))]]⟩] (fun r H' => r = .one (.sc (.bool (t.kids.any (fun x => !x.shape m)))) ∧ H' = [⟨1, 3, .mut, [[.sc (.int .i64 (5 - ((m + 1 : Nat) : Int)))]]⟩]) := by
      intro hl
      refine containsFunc1 _ _ (fun x => !x.shape m) _ (by omega) ?_
      intro k hk
      refine acl_in Try.func183 rfl isfn_183 (Nat.le_of_ble_eq_true rfl) (fun R hR => ?_); rw [Try.results183] at hR; refine wg_run ?_; (simp only [Try.f183, go_sem])
      (simp only [go_sem, hw])
      (first | refine cdq ?_ (hc := ih (by omega) _) | refine cmq ?_ (hc := ih (by omega) _) | refine ctq ?_ (hc := ih (by omega) _)); (simp only [go_sem])
      (refine hR _ (rat [] (hK := ⟨?_, ?_⟩)))
      · rfl
      · rfl
    clear ih
    refine fn_in ?_; refine acl_in Try.func175 rfl isfn_175 (Nat.le_of_ble_eq_true rfl) (fun R hR => ?_); rw [Try.results175] at hR; refine wg_run ?_; (simp only [Try.f175, go_sem])
    repeat' (first | (first | (simp only [go_sem, hd]) | (((first | apply sp1 | apply sp2 | apply sp3 | apply sp4 | apply sp5 | apply sp6 | apply sp7) <;> intro hb) <;> (simp only [go_sem, hb, hd])) | ((first | apply wm_done | apply wt_done | apply wg_run | refine fk ?_ ?_) <;> (simp only [go_sem, hd]))) | (first | refine kdq [1] ?_ (hc := hc (by have := beq_iff_eq.1 hb; omega)) | refine kmq [1] ?_ (hc := hc (by have := beq_iff_eq.1 hb; omega)) | refine ktq [1] ?_ (hc := hc (by have := beq_iff_eq.1 hb; omega))); rintro _ _ ⟨rfl, rfl⟩; (simp only [go_sem]))
    all_goals (refine hR _ (rat [] (hK := ⟨?_, rfl⟩)))
    all_goals clear hR hc
    all_goals simp_all [Ty.shape, kidsN, List.all_eq_not_any_not]
theorem iValid (t : Ty) : AFn Try.prog 148 [.agg (tyC t)] (.one (.sc (.bool t.valid))) := by
  refine fn_in ?_; refine acl_in Try.func148 rfl isfn_148 (Nat.le_of_ble_eq_true rfl) (fun R hR => ?_); rw [Try.results148] at hR; refine wg_run ?_; (simp only [Try.f148, go_sem])
  (first | refine cdq ?_ (hc := iScan 4 (by omega) _) | refine cmq ?_ (hc := iScan 4 (by omega) _) | refine ctq ?_ (hc := iScan 4 (by omega) _)); (simp only [go_sem])
  (refine hR _ (rat [] (hK := ⟨?_, rfl⟩)))
  rfl
theorem Ty.valid_16 {t : Ty} (h : t.valid = true) : t.size < 16 := by
  obtain ⟨x, rfl, hx⟩ := (Ty.valid_iff t).1 h
  rw [T.ty_size]
  have : ∀ (x : T) (d : Nat), x.depth ≤ d → d ≤ 4 → x.size < 2 ^ d := by
    intro x
    induction x with
    | any | int | bool => intro d h1 h2; simp only [T.depth, T.size] at *; exact Nat.one_lt_two_pow (by omega)
    | fn a b iha ihb | pr a b iha ihb =>
      intro d h1 h2
      simp only [T.depth, T.size] at *
      obtain ⟨d, rfl⟩ : ∃ e, d = e + 1 := ⟨d - 1, by omega⟩
      have := iha d (by omega) (by omega); have := ihb d (by omega) (by omega)
      rw [Nat.pow_succ]; omega
  have := this x 4 hx (Nat.le_refl _)
  omega
theorem Ty.valid_size {t : Ty} (h : t.valid = true) : t.size < 4611686018427387904 := by have := Ty.valid_16 h; omega
-- written by gen_on.py
theorem iConsistent (a b : Ty) : AFn Try.prog 150 [.agg (tyC a), .agg (tyC b)] (.one (.sc (.bool (onT T.cons a b)))) := by
  have va := iValid a
  have vb := iValid b
  by_cases ha : a.valid = true
  · rw [ha] at va
    by_cases hb' : b.valid = true
    · rw [hb'] at vb
      have hf := fun (x y : T) (e1 : x.ty = a) (e2 : y.ty = b) => by have h := iCons _ (Nat.le_refl _) a b (Ty.valid_size ha); rw [← e1, ← e2, T.cons_ty] at h; exact h
      obtain ⟨x, rfl, hx⟩ := (Ty.valid_iff a).1 ha
      obtain ⟨y, rfl, hy⟩ := (Ty.valid_iff b).1 hb'
      have hf := hf x y rfl rfl
      rw [onT_ty _ hx hy]
      clear ha hb'
      refine fn_in ?_; refine acl_in Try.func150 rfl isfn_150 (Nat.le_of_ble_eq_true rfl) (fun R hR => ?_); rw [Try.results150] at hR; refine wg_run ?_; (simp only [Try.f150, go_sem])
      repeat' (first | (first | (((first | apply sp1 | apply sp2 | apply sp3 | apply sp4 | apply sp5 | apply sp6 | apply sp7) <;> intro hb) <;> (simp only [go_sem, hb])) | ((first | apply wm_done | apply wt_done | apply wg_run | refine fk ?_ ?_) <;> (simp only [go_sem]))) | (first | refine cdq ?_ (hc := va) | refine cmq ?_ (hc := va) | refine ctq ?_ (hc := va)); (simp only [go_sem]) | (first | refine cdq ?_ (hc := vb) | refine cmq ?_ (hc := vb) | refine ctq ?_ (hc := vb)); (simp only [go_sem]) | (first | refine cdq ?_ (hc := hf) | refine cmq ?_ (hc := hf) | refine ctq ?_ (hc := hf)); (simp only [go_sem]) | ((first | refine mxq6 [] ?_ | refine mxq5 [] ?_ | refine mxq4 [] ?_ | refine mxq3 [] ?_ | refine mxq2 [] ?_ | refine mxq1 [] ?_ | refine mxq0 [] ?_ | fail); (simp only [go_sem])))
      all_goals (refine hR _ (rat [] (hK := ⟨rfl, rfl⟩)))
    · rw [Bool.not_eq_true] at hb'
      rw [onT_off _ (by simp [hb'])]
      rw [hb'] at vb
      clear ha hb'
      refine fn_in ?_; refine acl_in Try.func150 rfl isfn_150 (Nat.le_of_ble_eq_true rfl) (fun R hR => ?_); rw [Try.results150] at hR; refine wg_run ?_; (simp only [Try.f150, go_sem])
      repeat' (first | (first | (((first | apply sp1 | apply sp2 | apply sp3 | apply sp4 | apply sp5 | apply sp6 | apply sp7) <;> intro hb) <;> (simp only [go_sem, hb])) | ((first | apply wm_done | apply wt_done | apply wg_run | refine fk ?_ ?_) <;> (simp only [go_sem]))) | (first | refine cdq ?_ (hc := va) | refine cmq ?_ (hc := va) | refine ctq ?_ (hc := va)); (simp only [go_sem]) | (first | refine cdq ?_ (hc := vb) | refine cmq ?_ (hc := vb) | refine ctq ?_ (hc := vb)); (simp only [go_sem]) | ((first | refine mxq6 [] ?_ | refine mxq5 [] ?_ | refine mxq4 [] ?_ | refine mxq3 [] ?_ | refine mxq2 [] ?_ | refine mxq1 [] ?_ | refine mxq0 [] ?_ | fail); (simp only [go_sem])))
      all_goals (refine hR _ (rat [] (hK := ⟨rfl, rfl⟩)))
  · rw [Bool.not_eq_true] at ha
    rw [onT_off _ (by simp [ha])]
    rw [ha] at va
    clear ha
    refine fn_in ?_; refine acl_in Try.func150 rfl isfn_150 (Nat.le_of_ble_eq_true rfl) (fun R hR => ?_); rw [Try.results150] at hR; refine wg_run ?_; (simp only [Try.f150, go_sem])
    repeat' (first | (first | (((first | apply sp1 | apply sp2 | apply sp3 | apply sp4 | apply sp5 | apply sp6 | apply sp7) <;> intro hb) <;> (simp only [go_sem, hb])) | ((first | apply wm_done | apply wt_done | apply wg_run | refine fk ?_ ?_) <;> (simp only [go_sem]))) | (first | refine cdq ?_ (hc := va) | refine cmq ?_ (hc := va) | refine ctq ?_ (hc := va)); (simp only [go_sem]) | ((first | refine mxq6 [] ?_ | refine mxq5 [] ?_ | refine mxq4 [] ?_ | refine mxq3 [] ?_ | refine mxq2 [] ?_ | refine mxq1 [] ?_ | refine mxq0 [] ?_ | fail); (simp only [go_sem])))
    all_goals (refine hR _ (rat [] (hK := ⟨rfl, rfl⟩)))
-- end
end Go.Proofs.Ytnaebafafhamjaa
/- The reference's draws of types near a type, and of pairs, on shadows. -/
namespace Go.Proofs.Ytnaebafafhamjaa
open Go.RowKit Go.Proofs.Sh Go.Proofs.Grad
set_option maxRecDepth 100000
set_option maxHeartbeats 4000000
/-- a code -/
structure Code8 (l : List Int) : Prop where
  len : l.length < 4611686018427387904
  all : ∀ k, 0 ≤ byte l k ∧ byte l k < 256
end Go.Proofs.Ytnaebafafhamjaa
/- Coercions as trees, and their pure functions. No program, no world. -/
namespace Go.Proofs.Grad

/-- coercions as they come -/
inductive Co where
  | mk (k tag label : Int) (kids : List Co)
def Co.kind : Co → Int | .mk k _ _ _ => k
def Co.tag : Co → Int | .mk _ t _ _ => t
def Co.label : Co → Int | .mk _ _ l _ => l
def Co.kids : Co → List Co | .mk _ _ _ l => l
mutual
def Co.size : Co → Nat
  | .mk _ _ _ l => 1 + Co.sizes l
def Co.sizes : List Co → Nat
  | [] => 0
  | t :: l => t.size + Co.sizes l
end
/-- coercions that are valid but for depth and labels, where of a form -/
inductive K where
  | id (g : Int) | fn (a b : K) | pr (a b : K) | inj (c : K) | prj (l : Int) (c : K) | fail (l g : Int)
def K.co : K → Co
  | .id g => .mk 1 g 0 []
  | .fn a b => .mk 2 0 0 [a.co, b.co]
  | .pr a b => .mk 3 0 0 [a.co, b.co]
  | .inj c => .mk 4 0 0 [c.co]
  | .prj l c => .mk 5 0 l [c.co]
  | .fail l g => .mk 6 g l []
def K.plain : K → Bool
  | .fn _ _ => true | .pr _ _ => true | .id g => g != 1 | _ => false
def K.isAny : K → Bool
  | .id g => g == 1 | _ => false
def K.isPrj : K → Bool
  | .prj _ _ => true | _ => false
/-- a label -/
def lab (n : Int) : Bool := (decide (1 ≤ n) && decide (n ≤ 99)) || (decide (-99 ≤ n) && decide (n ≤ -1))
def K.wf : K → Bool
  | .id g => decide (1 ≤ g) && decide (g ≤ 3)
  | .fn a b => a.wf && b.wf
  | .pr a b => a.wf && b.wf
  | .inj c => c.plain && c.wf
  | .prj l c => lab l && !c.isPrj && !c.isAny && c.wf
  | .fail l g => lab l && decide (2 ≤ g) && decide (g ≤ 5)
def K.depth : K → Nat
  | .id _ => 1 | .fail _ _ => 1
  | .fn a b => max a.depth b.depth + 1
  | .pr a b => max a.depth b.depth + 1
  | .inj c => c.depth + 1
  | .prj _ c => c.depth + 1
def K.size : K → Nat
  | .id _ => 1 | .fail _ _ => 1
  | .fn a b => a.size + b.size + 1
  | .pr a b => a.size + b.size + 1
  | .inj c => c.size + 1
  | .prj _ c => c.size + 1
def K.tag : K → Int
  | .id g => g | .fn _ _ => 4 | .pr _ _ => 5 | .inj c => c.tag | .prj _ _ => 0 | .fail _ g => g
def K.labels : K → List Int
  | .id _ => [] | .fail l _ => [l]
  | .fn a b => a.labels ++ b.labels
  | .pr a b => a.labels ++ b.labels
  | .inj c => c.labels
  | .prj l c => l :: c.labels
mutual
def Co.same : Co → Co → Bool
  | .mk k t l a, .mk k' t' l' b => k == k' && (t == t' && (l == l' && Co.sames a b))
def Co.sames : List Co → List Co → Bool
  | [], [] => true
  | a :: l, b :: m => a.same b && Co.sames l m
  | _, _ => false
end
mutual
theorem Co.same_iff : ∀ a b : Co, a.same b = true ↔ a = b
  | .mk k t l a, .mk k' t' l' b => by simp [Co.same, Co.sames_iff a b]
theorem Co.sames_iff : ∀ a b : List Co, Co.sames a b = true ↔ a = b
  | [], [] => by simp [Co.sames]
  | [], _ :: _ => by simp [Co.sames]
  | _ :: _, [] => by simp [Co.sames]
  | a :: l, b :: m => by simp [Co.sames, Co.same_iff a b, Co.sames_iff l m]
end
theorem Co.same_refl (a : Co) : a.same a = true := (Co.same_iff a a).2 rfl
def Co.plain (c : Co) : Bool := c.kind == 2 || (c.kind == 3 || (c.kind == 1 && c.tag != 1))
def Co.okN (c : Co) : Bool :=
  match c with
  | .mk k t l ks =>
    if k = 1 then ks.length == 0 && (l == 0 && (decide (1 ≤ t) && decide (t ≤ 3)))
    else if k = 2 ∨ k = 3 then ks.length == 2 && (l == 0 && t == 0)
    else if k = 4 then (match ks with | [c] => l == 0 && (t == 0 && c.plain) | _ => false)
    else if k = 5 then (match ks with | [c] => lab l && (t == 0 && (c.kind != 5 && (c.kind != 1 || c.tag != 1))) | _ => false)
    else if k = 6 then ks.length == 0 && (lab l && (decide (2 ≤ t) && decide (t ≤ 5)))
    else false
def Co.shape : Nat → Co → Bool
  | 0, _ => false
  | d + 1, c => c.okN && c.kids.all (Co.shape d)
def Co.valid (c : Co) : Bool := c.shape 9

theorem K.co_plain (k : K) : k.co.plain = k.plain := by cases k <;> simp [K.co, Co.plain, Co.kind, Co.tag, K.plain]
theorem K.co_any (k : K) : (k.co.kind == 1 && k.co.tag == 1) = k.isAny := by cases k <;> simp [K.co, Co.kind, Co.tag, K.isAny]
theorem K.co_prj (k : K) : (k.co.kind == 5) = k.isPrj := by cases k <;> simp [K.co, Co.kind, K.isPrj]
theorem K.shape_co : ∀ (k : K) (d : Nat), k.co.shape d = (k.wf && decide (k.depth ≤ d))
  | k, 0 => by cases k <;> simp [Co.shape, K.depth]
  | .id g, d + 1 => by simp [K.co, Co.shape, Co.okN, Co.kids, K.wf, K.depth]
  | .fail l g, d + 1 => by simp [K.co, Co.shape, Co.okN, Co.kids, K.wf, K.depth, Bool.and_assoc]
  | .fn a b, d + 1 => by
    simp only [K.co, Co.shape, Co.okN, Co.kids, K.wf, K.depth, List.all_cons, List.all_nil, K.shape_co a d, K.shape_co b d]
    rw [Bool.eq_iff_iff]; simp; grind
  | .pr a b, d + 1 => by
    simp only [K.co, Co.shape, Co.okN, Co.kids, K.wf, K.depth, List.all_cons, List.all_nil, K.shape_co a d, K.shape_co b d]
    rw [Bool.eq_iff_iff]; simp; grind
  | .inj a, d + 1 => by
    simp only [K.co, Co.shape, Co.okN, Co.kids, K.wf, K.depth, List.all_cons, List.all_nil, K.shape_co a d, K.co_plain]
    rw [Bool.eq_iff_iff]; simp; grind
  | .prj l a, d + 1 => by
    have h1 := K.co_any a
    have h2 := K.co_prj a
    simp only [K.co, Co.shape, Co.okN, Co.kids, K.wf, K.depth, List.all_cons, List.all_nil, K.shape_co a d, ← h1, ← h2]
    rw [Bool.eq_iff_iff]; simp [bne]; grind
theorem Co.shape_K : ∀ (d : Nat) (c : Co), c.shape d = true → ∃ k : K, k.co = c ∧ k.wf = true ∧ k.depth ≤ d := by
  intro d
  induction d with
  | zero => intro c h; simp [Co.shape] at h
  | succ d ih =>
    intro c h
    obtain ⟨k, t, l, ks⟩ := c
    have h0 := h
    simp only [Co.shape, Bool.and_eq_true, Co.kids, List.all_eq_true] at h
    obtain ⟨h1, h2⟩ := h
    have fin : ∀ x : K, x.co = Co.mk k t l ks → ∃ k' : K, k'.co = Co.mk k t l ks ∧ k'.wf = true ∧ k'.depth ≤ d + 1 := by
      intro x hx
      rw [← hx, K.shape_co] at h0
      simp only [Bool.and_eq_true, decide_eq_true_eq] at h0
      exact ⟨x, hx, h0.1, h0.2⟩
    simp only [Co.okN] at h1
    split at h1
    · rename_i hk; simp at h1
      obtain ⟨rfl, rfl, _⟩ := h1
      subst hk
      exact fin (.id t) rfl
    · split at h1
      · rename_i hk; simp at h1
        obtain ⟨hl, rfl, rfl⟩ := h1
        obtain ⟨a, b, rfl⟩ : ∃ a b, ks = [a, b] := by
          match ks, hl with
          | [a, b], _ => exact ⟨a, b, rfl⟩
        obtain ⟨x, hx, _⟩ := ih a (h2 a (by simp))
        obtain ⟨y, hy, _⟩ := ih b (h2 b (by simp))
        rcases hk with rfl | rfl
        · exact fin (.fn x y) (by rw [K.co, hx, hy])
        · exact fin (.pr x y) (by rw [K.co, hx, hy])
      · split at h1
        · rename_i hk; subst hk
          split at h1
          · rename_i a; simp at h1
            obtain ⟨rfl, rfl, _⟩ := h1
            obtain ⟨x, hx, _⟩ := ih a (h2 a (by simp))
            exact fin (.inj x) (by rw [K.co, hx])
          · cases h1
        · split at h1
          · rename_i hk; subst hk
            split at h1
            · rename_i a; simp at h1
              obtain ⟨_, rfl, _⟩ := h1
              obtain ⟨x, hx, _⟩ := ih a (h2 a (by simp))
              exact fin (.prj l x) (by rw [K.co, hx])
            · cases h1
          · split at h1
            · rename_i hk; subst hk
              simp at h1
              obtain ⟨rfl, _⟩ := h1
              exact fin (.fail l t) rfl
            · cases h1
theorem Co.valid_iff (c : Co) : c.valid = true ↔ ∃ k : K, k.co = c ∧ k.wf = true ∧ k.depth ≤ 9 :=
  ⟨Co.shape_K 9 c, fun ⟨k, e, h1, h2⟩ => by rw [← e, Co.valid, K.shape_co, h1]; simpa using h2⟩
end Go.Proofs.Grad
/- Terms as trees, their checks and their forms. No program, no world. -/
namespace Go.Proofs.Grad

/-- terms as they come -/
inductive Tm where
  | mk (kind : Int) (name : ByteArray) (num : Int) (type frm : Ty) (label : Int) (kids : List Tm)
def Tm.kind : Tm → Int | .mk k _ _ _ _ _ _ => k
def Tm.name : Tm → ByteArray | .mk _ n _ _ _ _ _ => n
def Tm.num : Tm → Int | .mk _ _ n _ _ _ _ => n
def Tm.type : Tm → Ty | .mk _ _ _ t _ _ _ => t
def Tm.frm : Tm → Ty | .mk _ _ _ _ t _ _ => t
def Tm.label : Tm → Int | .mk _ _ _ _ _ l _ => l
def Tm.kids : Tm → List Tm | .mk _ _ _ _ _ _ l => l
mutual
def Tm.size : Tm → Nat
  | .mk _ _ _ t f _ l => 1 + (t.size + f.size + Tm.sizes l)
def Tm.sizes : List Tm → Nat
  | [] => 0
  | t :: l => t.size + Tm.sizes l
end
mutual
def Tm.nodes : Tm → Nat
  | .mk _ _ _ _ _ _ l => 1 + Tm.nodess l
def Tm.nodess : List Tm → Nat
  | [] => 0
  | t :: l => t.nodes + Tm.nodess l
end
mutual
theorem Tm.nodes_le : ∀ t : Tm, t.nodes ≤ t.size
  | .mk _ _ _ _ _ _ l => by have := Tm.nodess_le l; simp only [Tm.nodes, Tm.size]; omega
theorem Tm.nodess_le : ∀ l : List Tm, Tm.nodess l ≤ Tm.sizes l
  | [] => Nat.le_refl _
  | t :: l => by have := Tm.nodes_le t; have := Tm.nodess_le l; simp only [Tm.nodess, Tm.sizes]; omega
end
theorem Tm.nodes_eq (t : Tm) : t.nodes = 1 + Tm.nodess t.kids := by cases t; simp only [Tm.nodes, Tm.kids]
theorem bytes_ext {a b : ByteArray} (h : a.toList = b.toList) : a = b := by
  rw [Go.ByteArray.toList_eq, Go.ByteArray.toList_eq] at h
  obtain ⟨⟨a⟩⟩ := a; obtain ⟨⟨b⟩⟩ := b
  simp at h; subst h; rfl
mutual
def Tm.same : Tm → Tm → Bool
  | .mk k n m t f l a, .mk k' n' m' t' f' l' b => k == k' && (n.toList == n'.toList && (m == m' && (t.same t' && (f.same f' && (l == l' && Tm.sames a b)))))
def Tm.sames : List Tm → List Tm → Bool
  | [], [] => true
  | a :: l, b :: m => a.same b && Tm.sames l m
  | _, _ => false
end
mutual
theorem Tm.same_iff : ∀ a b : Tm, a.same b = true ↔ a = b
  | .mk k n m t f l a, .mk k' n' m' t' f' l' b => by
    simp only [Tm.same, Bool.and_eq_true, beq_iff_eq, Ty.same_iff, Tm.sames_iff a b, Tm.mk.injEq]
    exact ⟨fun ⟨h1, h2, h3, h4, h5, h6, h7⟩ => ⟨h1, bytes_ext h2, h3, h4, h5, h6, h7⟩, fun ⟨h1, h2, h3, h4, h5, h6, h7⟩ => ⟨h1, by rw [h2], h3, h4, h5, h6, h7⟩⟩
theorem Tm.sames_iff : ∀ a b : List Tm, Tm.sames a b = true ↔ a = b
  | [], [] => by simp [Tm.sames]
  | [], _ :: _ => by simp [Tm.sames]
  | _ :: _, [] => by simp [Tm.sames]
  | a :: l, b :: m => by simp [Tm.sames, Tm.same_iff a b, Tm.sames_iff l m]
end
theorem Tm.same_refl (a : Tm) : a.same a = true := (Tm.same_iff a a).2 rfl

/-! ### checks of a node -/
/-- a name -/
def nmOk (s : ByteArray) : Bool := s.size == 1 && (match s[0]? with | some b => decide (97 ≤ (b.toNat : Int)) && decide ((b.toNat : Int) ≤ 122) | none => false)
def nm (b : UInt8) : ByteArray := ⟨#[b]⟩
def nmB (b : UInt8) : Bool := decide (97 ≤ (b.toNat : Int)) && decide ((b.toNat : Int) ≤ 122)
theorem nmOk_nm (b : UInt8) : nmOk (nm b) = nmB b := rfl
theorem nm_size (b : UInt8) : (nm b).size = 1 := rfl
theorem bs_empty_size : ByteArray.empty.size = 0 := rfl
theorem size_mk (l : Array UInt8) : (ByteArray.mk l).size = l.size := rfl
theorem nmOk_some {s : ByteArray} (h : nmOk s = true) : ∃ b, s = nm b ∧ nmB b = true := by
  obtain ⟨⟨l⟩⟩ := s
  match l, h with
  | [b], h => exact ⟨b, rfl, by rw [← nmOk_nm]; exact h⟩
  | [], h => rw [nmOk, size_mk] at h; simp at h
  | _ :: _ :: _, h => rw [nmOk, size_mk] at h; simp at h
/-- how many operands -/
def opN (k : Int) : Int := if k = 1 then 0 else if k = 2 then 0 else if k = 3 then 0 else if k = 4 then 0 else if k = 5 then 1 else if k = 6 then 2 else if k = 7 then 2 else if k = 8 then 2 else if k = 9 then 3 else if k = 10 then 2 else if k = 11 then 1 else if k = 12 then 1 else if k = 13 then 1 else if k = 14 then 1 else -1
def noTy : Ty := .mk 0 []
def Ty.isNo (t : Ty) : Bool := t.kind == 0 && t.kids.length == 0
theorem Ty.isNo_iff {t : Ty} (h : t.isNo = true) : t = noTy := by
  obtain ⟨k, l⟩ := t
  simp only [Ty.isNo, Ty.kind, Ty.kids, Bool.and_eq_true, beq_iff_eq] at h
  rw [h.1, List.eq_nil_of_length_eq_zero h.2]; rfl
noncomputable def Tm.nodeOk (t : Tm) : Bool :=
  opN t.kind == (t.kids.length : Int) &&
  ((if t.kind = 1 ∨ t.kind = 5 then nmOk t.name else t.name.size == 0) &&
  ((decide (0 ≤ t.num) && decide (t.num ≤ if t.kind = 2 then 999 else 0)) &&
  ((if t.kind = 5 ∨ t.kind = 13 ∨ t.kind = 14 then t.type.valid else t.type.isNo) &&
  (if t.kind = 14 then onT T.cons t.frm t.type && lab t.label else t.frm.isNo && t.label == 0))))
noncomputable def Tm.shape (no : Int) : Nat → Tm → Bool
  | 0, _ => false
  | d + 1, t => t.kind != no && (t.nodeOk && t.kids.all (Tm.shape no d))
noncomputable def Tm.termV (t : Tm) : Bool := t.shape 14 12 && decide (t.nodes ≤ 30)
inductive E where
  | var (x : UInt8) | num (n : Int) | tru | fls | lam (x : UInt8) (t : T) (e : E) | app (a b : E) | add (a b : E) | less (a b : E) | ite (a b c : E) | pair (a b : E) | fst (a : E) | snd (a : E) | asc (t : T) (a : E) | cast (s t : T) (l : Int) (a : E)
/-- a node with no name, no number, no types, no label -/
def nd (k : Int) (l : List Tm) : Tm := .mk k ByteArray.empty 0 noTy noTy 0 l
def E.tm : E → Tm
  | .var x => .mk 1 (nm x) 0 noTy noTy 0 []
  | .num n => .mk 2 ByteArray.empty n noTy noTy 0 []
  | .tru => nd 3 []
  | .fls => nd 4 []
  | .lam x t e => .mk 5 (nm x) 0 t.ty noTy 0 [e.tm]
  | .app a b => nd 6 [a.tm, b.tm]
  | .add a b => nd 7 [a.tm, b.tm]
  | .less a b => nd 8 [a.tm, b.tm]
  | .ite a b c => nd 9 [a.tm, b.tm, c.tm]
  | .pair a b => nd 10 [a.tm, b.tm]
  | .fst a => nd 11 [a.tm]
  | .snd a => nd 12 [a.tm]
  | .asc t a => .mk 13 ByteArray.empty 0 t.ty noTy 0 [a.tm]
  | .cast s t l a => .mk 14 ByteArray.empty 0 t.ty s.ty l [a.tm]
def E.kids : E → List E
  | .var _ | .num _ | .tru | .fls => []
  | .lam _ _ a | .fst a | .snd a | .asc _ a | .cast _ _ _ a => [a]
  | .app a b | .add a b | .less a b | .pair a b => [a, b]
  | .ite a b c => [a, b, c]
def E.wf : E → Bool
  | .var x => nmB x
  | .num n => decide (0 ≤ n) && decide (n ≤ 999)
  | .tru | .fls => true
  | .lam x t a => nmB x && (decide (t.depth ≤ 4) && a.wf)
  | .app a b | .add a b | .less a b | .pair a b => a.wf && b.wf
  | .ite a b c => a.wf && (b.wf && c.wf)
  | .fst a | .snd a => a.wf
  | .asc t a => decide (t.depth ≤ 4) && a.wf
  | .cast s t l a => (decide (s.depth ≤ 4) && decide (t.depth ≤ 4)) && (s.cons t && (lab l && a.wf))
/-- no casts; no annotations -/
def E.noC : E → Bool
  | .var _ | .num _ | .tru | .fls => true
  | .lam _ _ a | .fst a | .snd a | .asc _ a => a.noC
  | .app a b | .add a b | .less a b | .pair a b => a.noC && b.noC
  | .ite a b c => a.noC && (b.noC && c.noC)
  | .cast _ _ _ _ => false
def E.noA : E → Bool
  | .var _ | .num _ | .tru | .fls => true
  | .lam _ _ a | .fst a | .snd a | .cast _ _ _ a => a.noA
  | .app a b | .add a b | .less a b | .pair a b => a.noA && b.noA
  | .ite a b c => a.noA && (b.noA && c.noA)
  | .asc _ _ => false
def E.depth : E → Nat
  | .var _ | .num _ | .tru | .fls => 1
  | .lam _ _ a | .fst a | .snd a | .asc _ a | .cast _ _ _ a => a.depth + 1
  | .app a b | .add a b | .less a b | .pair a b => max a.depth b.depth + 1
  | .ite a b c => max a.depth (max b.depth c.depth) + 1
def E.nodes : E → Nat
  | .var _ | .num _ | .tru | .fls => 1
  | .lam _ _ a | .fst a | .snd a | .asc _ a | .cast _ _ _ a => 1 + a.nodes
  | .app a b | .add a b | .less a b | .pair a b => 1 + (a.nodes + b.nodes)
  | .ite a b c => 1 + (a.nodes + (b.nodes + c.nodes))
theorem E.tm_nodes (e : E) : e.tm.nodes = e.nodes := by
  induction e <;> simp only [E.tm, nd, Tm.nodes, Tm.nodess, E.nodes, *] <;> omega
theorem noTy_isNo : noTy.isNo = true := rfl
theorem onT_cons_ty (x y : T) : onT T.cons x.ty y.ty = (decide (x.depth ≤ 4) && (decide (y.depth ≤ 4) && x.cons y)) := by
  have h : ∀ t : T, t.ty.valid = decide (t.depth ≤ 4) := fun t => T.shape_ty t 4
  by_cases hx : x.depth ≤ 4
  · by_cases hy : y.depth ≤ 4
    · rw [onT_ty _ hx hy]; simp [hx, hy]
    · rw [onT_off _ (by simp [h, hy])]; simp [hy]
  · rw [onT_off _ (by simp [h, hx])]; simp [hx]
theorem T.valid_ty (t : T) : t.ty.valid = decide (t.depth ≤ 4) := T.shape_ty t 4
theorem E.nodeOk_tm (e : E) : e.tm.nodeOk = (match e with
  | .var x => nmB x | .num n => decide (0 ≤ n) && decide (n ≤ 999) | .lam x t _ => nmB x && decide (t.depth ≤ 4) | .asc t _ => decide (t.depth ≤ 4)
  | .cast s t l _ => (decide (s.depth ≤ 4) && decide (t.depth ≤ 4)) && (s.cons t && lab l) | _ => true) := by
  cases e <;> simp [Tm.nodeOk, E.tm, nd, Tm.kind, Tm.name, Tm.num, Tm.type, Tm.frm, Tm.label, Tm.kids, opN, nmOk_nm, noTy_isNo, T.valid_ty, onT_cons_ty, bs_empty_size, -ByteArray.size_data]
  all_goals (try grind)
end Go.Proofs.Grad
/- Terms as shadows. -/
namespace Go.Proofs.Sh
open Go.RowKit Go.Proofs.Grad

mutual
def teC : Tm → List C
  | .mk x0 x1 x2 x3 x4 x5 x6 => [.sc (.int .i64 (x0)), .sc (.string (x1)), .sc (.int .i64 (x2)), .sc (.int .i64 (x3).kind), .sl (tyR (x3).kids), .sc (.int .i64 (x4).kind), .sl (tyR (x4).kids), .sc (.int .i64 (x5)), .sl (teR (x6))]
def teR : List Tm → List (List C)
  | [] => []
  | t :: l => teC t :: teR l
end
theorem teC_eq (t : Tm) : teC t = [.sc (.int .i64 (t.kind)), .sc (.string (t.name)), .sc (.int .i64 (t.num)), .sc (.int .i64 (t.type).kind), .sl (tyR (t.type).kids), .sc (.int .i64 (t.frm).kind), .sl (tyR (t.frm).kids), .sc (.int .i64 (t.label)), .sl (teR (t.kids))] := by cases t; rfl
@[go_sem] theorem teC_length (t : Tm) : (teC t).length = 9 := by rw [teC_eq]; rfl
@[go_sem] theorem teC_take (t : Tm) : (teC t).take 9 = teC t := by rw [teC_eq]; rfl
@[go_sem] theorem teC_drop (t : Tm) : (teC t).drop 0 = teC t := rfl
@[go_sem] theorem teC_dropn (t : Tm) : (teC t).drop 9 = [] := by rw [teC_eq]; rfl
@[go_sem] theorem teC_treeL (t : Tm) : treeL (teC t) = true := by rw [teC_eq]; rfl
@[go_sem] theorem teC_0 (t : Tm) : (teC t)[0]? = some (.sc (.int .i64 (t.kind))) := by rw [teC_eq]; rfl
@[go_sem] theorem teC_1 (t : Tm) : (teC t)[1]? = some (.sc (.string (t.name))) := by rw [teC_eq]; rfl
@[go_sem] theorem teC_2 (t : Tm) : (teC t)[2]? = some (.sc (.int .i64 (t.num))) := by rw [teC_eq]; rfl
@[go_sem] theorem teC_3 (t : Tm) : (teC t)[3]? = some (.sc (.int .i64 (t.type).kind)) := by rw [teC_eq]; rfl
@[go_sem] theorem teC_4 (t : Tm) : (teC t)[4]? = some (.sl (tyR (t.type).kids)) := by rw [teC_eq]; rfl
@[go_sem] theorem teC_dlen3 (t : Tm) : ((teC t).drop 3).length = 6 := by rw [teC_eq]; rfl
@[go_sem] theorem teC_part3 (t : Tm) : ((teC t).drop 3).take 2 = tyC t.type := by rw [teC_eq, tyC_eq]; rfl
@[go_sem] theorem teC_5 (t : Tm) : (teC t)[5]? = some (.sc (.int .i64 (t.frm).kind)) := by rw [teC_eq]; rfl
@[go_sem] theorem teC_6 (t : Tm) : (teC t)[6]? = some (.sl (tyR (t.frm).kids)) := by rw [teC_eq]; rfl
@[go_sem] theorem teC_dlen5 (t : Tm) : ((teC t).drop 5).length = 4 := by rw [teC_eq]; rfl
@[go_sem] theorem teC_part5 (t : Tm) : ((teC t).drop 5).take 2 = tyC t.frm := by rw [teC_eq, tyC_eq]; rfl
@[go_sem] theorem teC_7 (t : Tm) : (teC t)[7]? = some (.sc (.int .i64 (t.label))) := by rw [teC_eq]; rfl
@[go_sem] theorem teC_8 (t : Tm) : (teC t)[8]? = some (.sl (teR (t.kids))) := by rw [teC_eq]; rfl
@[go_sem] theorem tyC_app (t : Ty) (l : List C) : tyC t ++ l = .sc (.int .i64 t.kind) :: .sl (tyR t.kids) :: l := by rw [tyC_eq]; rfl
@[go_sem] theorem teC_splice0 (t : Tm) (x : C) : splice (teC t) 0 [x] = [x, .sc (.string (t.name)), .sc (.int .i64 (t.num)), .sc (.int .i64 (t.type).kind), .sl (tyR (t.type).kids), .sc (.int .i64 (t.frm).kind), .sl (tyR (t.frm).kids), .sc (.int .i64 (t.label)), .sl (teR (t.kids))] := by rw [teC_eq]; rfl
@[go_sem] theorem teC_splice1 (t : Tm) (x : C) : splice (teC t) 1 [x] = [.sc (.int .i64 (t.kind)), x, .sc (.int .i64 (t.num)), .sc (.int .i64 (t.type).kind), .sl (tyR (t.type).kids), .sc (.int .i64 (t.frm).kind), .sl (tyR (t.frm).kids), .sc (.int .i64 (t.label)), .sl (teR (t.kids))] := by rw [teC_eq]; rfl
@[go_sem] theorem teC_splice2 (t : Tm) (x : C) : splice (teC t) 2 [x] = [.sc (.int .i64 (t.kind)), .sc (.string (t.name)), x, .sc (.int .i64 (t.type).kind), .sl (tyR (t.type).kids), .sc (.int .i64 (t.frm).kind), .sl (tyR (t.frm).kids), .sc (.int .i64 (t.label)), .sl (teR (t.kids))] := by rw [teC_eq]; rfl
@[go_sem] theorem teC_splice3 (t : Tm) (x : C) : splice (teC t) 3 [x] = [.sc (.int .i64 (t.kind)), .sc (.string (t.name)), .sc (.int .i64 (t.num)), x, .sl (tyR (t.type).kids), .sc (.int .i64 (t.frm).kind), .sl (tyR (t.frm).kids), .sc (.int .i64 (t.label)), .sl (teR (t.kids))] := by rw [teC_eq]; rfl
@[go_sem] theorem teC_splice4 (t : Tm) (x : C) : splice (teC t) 4 [x] = [.sc (.int .i64 (t.kind)), .sc (.string (t.name)), .sc (.int .i64 (t.num)), .sc (.int .i64 (t.type).kind), x, .sc (.int .i64 (t.frm).kind), .sl (tyR (t.frm).kids), .sc (.int .i64 (t.label)), .sl (teR (t.kids))] := by rw [teC_eq]; rfl
@[go_sem] theorem teC_splice5 (t : Tm) (x : C) : splice (teC t) 5 [x] = [.sc (.int .i64 (t.kind)), .sc (.string (t.name)), .sc (.int .i64 (t.num)), .sc (.int .i64 (t.type).kind), .sl (tyR (t.type).kids), x, .sl (tyR (t.frm).kids), .sc (.int .i64 (t.label)), .sl (teR (t.kids))] := by rw [teC_eq]; rfl
@[go_sem] theorem teC_splice6 (t : Tm) (x : C) : splice (teC t) 6 [x] = [.sc (.int .i64 (t.kind)), .sc (.string (t.name)), .sc (.int .i64 (t.num)), .sc (.int .i64 (t.type).kind), .sl (tyR (t.type).kids), .sc (.int .i64 (t.frm).kind), x, .sc (.int .i64 (t.label)), .sl (teR (t.kids))] := by rw [teC_eq]; rfl
@[go_sem] theorem teC_splice7 (t : Tm) (x : C) : splice (teC t) 7 [x] = [.sc (.int .i64 (t.kind)), .sc (.string (t.name)), .sc (.int .i64 (t.num)), .sc (.int .i64 (t.type).kind), .sl (tyR (t.type).kids), .sc (.int .i64 (t.frm).kind), .sl (tyR (t.frm).kids), x, .sl (teR (t.kids))] := by rw [teC_eq]; rfl
@[go_sem] theorem teC_splice8 (t : Tm) (x : C) : splice (teC t) 8 [x] = [.sc (.int .i64 (t.kind)), .sc (.string (t.name)), .sc (.int .i64 (t.num)), .sc (.int .i64 (t.type).kind), .sl (tyR (t.type).kids), .sc (.int .i64 (t.frm).kind), .sl (tyR (t.frm).kids), .sc (.int .i64 (t.label)), x] := by rw [teC_eq]; rfl
@[go_sem] theorem teC_splice3ty (t : Tm) (x y : C) : splice (teC t) 3 [x, y] = [.sc (.int .i64 (t.kind)), .sc (.string (t.name)), .sc (.int .i64 (t.num)), x, y, .sc (.int .i64 (t.frm).kind), .sl (tyR (t.frm).kids), .sc (.int .i64 (t.label)), .sl (teR (t.kids))] := by rw [teC_eq]; rfl
@[go_sem] theorem teC_splice3tyC (t : Tm) (u : Ty) : splice (teC t) 3 (tyC u) = teC (.mk t.kind t.name t.num u t.frm t.label t.kids) := by rw [teC_eq, tyC_eq]; rfl
@[go_sem] theorem teC_splice5ty (t : Tm) (x y : C) : splice (teC t) 5 [x, y] = [.sc (.int .i64 (t.kind)), .sc (.string (t.name)), .sc (.int .i64 (t.num)), .sc (.int .i64 (t.type).kind), .sl (tyR (t.type).kids), x, y, .sc (.int .i64 (t.label)), .sl (teR (t.kids))] := by rw [teC_eq]; rfl
@[go_sem] theorem teC_splice5tyC (t : Tm) (u : Ty) : splice (teC t) 5 (tyC u) = teC (.mk t.kind t.name t.num t.type u t.label t.kids) := by rw [teC_eq, tyC_eq]; rfl
@[go_sem] theorem teR_length (l : List Tm) : (teR l).length = l.length := by
  induction l with
  | nil => rfl
  | cons t l ih => simp [teR, ih]
theorem teR_get (l : List Tm) (i : Nat) : (teR l)[i]? = (l[i]?).map teC := by
  induction l generalizing i with
  | nil => simp [teR]
  | cons t l ih => cases i <;> simp [teR, ih]
/-- the k-th one -/
def teKid (l : List Tm) (k : Nat) : Tm := l.getD k (.mk 0 ByteArray.empty 0 (.mk 0 []) (.mk 0 []) 0 [])
theorem teKid_eq {l : List Tm} {k : Nat} (h : k < l.length) : teKid l k = l[k] := by simp [teKid, h]
@[go_sem] theorem teR_at (l : List Tm) (i : Nat) : (teR l)[i]? = match decide ((i : Int) < (l.length : Int)) with | true => some (teC (teKid l i)) | false => none := by
  rw [teR_get]
  by_cases h : i < l.length
  · have h' : (i : Int) < (l.length : Int) := by omega
    simp [h, h', teKid]
  · have h' : ¬ (i : Int) < (l.length : Int) := by omega
    simp [h, h']
theorem tesizes_mem {t : Tm} {l : List Tm} (h : t ∈ l) : t.size ≤ Tm.sizes l := by
  induction l with
  | nil => simp at h
  | cons x l ih =>
    simp only [Tm.sizes]
    rcases List.mem_cons.1 h with rfl | h
    · omega
    · have := ih h; omega
theorem telen_sizes (l : List Tm) : l.length ≤ Tm.sizes l := by
  induction l with
  | nil => simp [Tm.sizes]
  | cons x l ih => cases x; simp only [Tm.sizes, Tm.size, List.length_cons]; omega
theorem tekids_lt (t : Tm) : Tm.sizes t.kids < t.size := by cases t; simp only [Tm.size, Tm.kids]; omega
theorem telen_lt (t : Tm) : t.kids.length < t.size := Nat.lt_of_le_of_lt (telen_sizes _) (tekids_lt t)
theorem teKid_lt {t : Tm} {k : Nat} (h : k < t.kids.length) : (teKid t.kids k).size < t.size := by
  rw [teKid_eq h]
  exact Nat.lt_of_le_of_lt (tesizes_mem (List.getElem_mem h)) (tekids_lt t)
theorem tetake_kid {l : List Tm} {k : Nat} (h : k < l.length) : l.take (k + 1) = l.take k ++ [teKid l k] := by
  rw [teKid_eq h, List.take_succ_eq_append_getElem h]
theorem tedrop_kid {l : List Tm} {k : Nat} (h : k < l.length) : l.drop k = teKid l k :: l.drop (k + 1) := by
  rw [teKid_eq h, List.drop_eq_getElem_cons h]
theorem teR_append (l m : List Tm) : teR (l ++ m) = teR l ++ teR m := by
  induction l with
  | nil => rfl
  | cons t l ih => simp [teR, ih]
theorem teR_take {l : List Tm} {k : Nat} (h : k < l.length) : teR (l.take (k + 1)) = teR (l.take k) ++ [teC (teKid l k)] := by
  rw [tetake_kid h, teR_append]; rfl
@[go_sem] theorem teR_tree (l : List Tm) : treeRows (teR l) = true := by
  induction l with
  | nil => rfl
  | cons t l ih => simp only [teR, treeRows_cons, teC_treeL, Bool.true_and]; exact ih
@[go_sem] theorem teR_len (l : List Tm) : rowsLen 9 (teR l) = true := by
  induction l with
  | nil => rfl
  | cons t l ih => simp only [teR, rowsLen_cons, teC_length, beq_self_eq_true, Bool.true_and]; exact ih
attribute [go_sem] teR
@[go_sem] theorem tekind_mk (x0 : Int) (x1 : ByteArray) (x2 : Int) (x3 : Ty) (x4 : Ty) (x5 : Int) (x6 : List Tm) : (Tm.mk x0 x1 x2 x3 x4 x5 x6).kind = x0 := rfl
@[go_sem] theorem tename_mk (x0 : Int) (x1 : ByteArray) (x2 : Int) (x3 : Ty) (x4 : Ty) (x5 : Int) (x6 : List Tm) : (Tm.mk x0 x1 x2 x3 x4 x5 x6).name = x1 := rfl
@[go_sem] theorem tenum_mk (x0 : Int) (x1 : ByteArray) (x2 : Int) (x3 : Ty) (x4 : Ty) (x5 : Int) (x6 : List Tm) : (Tm.mk x0 x1 x2 x3 x4 x5 x6).num = x2 := rfl
@[go_sem] theorem tetype_mk (x0 : Int) (x1 : ByteArray) (x2 : Int) (x3 : Ty) (x4 : Ty) (x5 : Int) (x6 : List Tm) : (Tm.mk x0 x1 x2 x3 x4 x5 x6).type = x3 := rfl
@[go_sem] theorem tefrm_mk (x0 : Int) (x1 : ByteArray) (x2 : Int) (x3 : Ty) (x4 : Ty) (x5 : Int) (x6 : List Tm) : (Tm.mk x0 x1 x2 x3 x4 x5 x6).frm = x4 := rfl
@[go_sem] theorem telabel_mk (x0 : Int) (x1 : ByteArray) (x2 : Int) (x3 : Ty) (x4 : Ty) (x5 : Int) (x6 : List Tm) : (Tm.mk x0 x1 x2 x3 x4 x5 x6).label = x5 := rfl
@[go_sem] theorem tekids_mk (x0 : Int) (x1 : ByteArray) (x2 : Int) (x3 : Ty) (x4 : Ty) (x5 : Int) (x6 : List Tm) : (Tm.mk x0 x1 x2 x3 x4 x5 x6).kids = x6 := rfl
end Go.Proofs.Sh
