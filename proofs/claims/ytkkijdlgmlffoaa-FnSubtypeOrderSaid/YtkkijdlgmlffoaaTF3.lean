/- Types: the program's checks, on shadows. -/
import Derived.Test.YtkkijdlgmlffoaaTF1
namespace Go.Proofs.Sh
open Go.Proofs.Grad
theorem all2_kid {f : Ty → Ty → Bool} {a b : List Ty} {i : Nat} (ha : i < a.length) (hb : i < b.length) : all2 f (a.drop i) (b.drop i) = (f (kid a i) (kid b i) && all2 f (a.drop (i + 1)) (b.drop (i + 1))) := by
  rw [all2_drop ha hb, kid_eq ha, kid_eq hb]
theorem all2_end {f : Ty → Ty → Bool} {a b : List Ty} {i : Nat} (ha : ¬ i < a.length) (hb : a.length = b.length) : all2 f (a.drop i) (b.drop i) = true := by
  rw [List.drop_eq_nil_of_le (by omega), List.drop_eq_nil_of_le (by omega)]; rfl
/-- a type of a size that numbers hold -/
def Big : Nat := 4611686018427387904
end Go.Proofs.Sh
namespace Go.Proofs.Ytkkijdlgmlffoaa
open Go.RowKit Go.Proofs.Sh Go.Proofs.Grad
set_option maxRecDepth 100000
set_option maxHeartbeats 4000000
theorem eqFunc (g : FuncId) (Q : Ty → Ty → Bool) (l m : List Ty) (hl : l.length < 4611686018427387904)
    (hg : ∀ k, k < l.length → k < m.length → AFn Try.prog g [.agg (tyC (kid l k)), .agg (tyC (kid m k))] (.one (.sc (.bool (Q (kid l k) (kid m k)))))) :
    AFn Try.prog 54 [.one (.sl (tyR l)), .one (.sl (tyR m)), .one (.fn g [])] (.one (.sc (.bool (all2 Q l m)))) := by
  refine fn_in ?_; refine acl_in Try.func54 rfl isfn_54 (Nat.le_of_ble_eq_true rfl) (fun R hR => ?_); rw [Try.results54] at hR; refine wg_run ?_; (simp only [Try.f54, go_sem])
  repeat' (first | ((first | refine wd_split _ (fun hb => ?_) (fun hb => ?_) | refine wd_nwant _ (fun hb => ?_) (fun hb => ?_) | refine wm_nwant _ (fun hb => ?_) (fun hb => ?_) | refine wd_want _ (fun hb => ?_) (fun hb => ?_) | refine wm_want _ (fun hb => ?_) (fun hb => ?_)) <;> (simp only [go_sem, hb])) | (refine wm_done ?_; (simp only [go_sem])) | (refine wg_run ?_; (simp only [go_sem])))
  · (refine hR _ (ret_at [] (by (simp only [go_sem]) <;> rfl) (by (simp only [go_sem]) <;> rfl) ⟨?_, rfl⟩))
    rw [all2_len]
    intro h; simp [h] at hb
  · have hlm : l.length = m.length := by simp at hb; omega
    clear hb
    refine wd_for [0, 1, 2, 15, 16, 17] (fun k => [.one (.sl (tyR l)), .one (.sl (tyR m)), .one (.fn g []), .one (.sl (tyR l)), .one (.sc (.int .i64 l.length)), .one (.sc (.int .i64 (k : Nat)))]) (fun k => [])
      (fun k => k ≤ l.length ∧ all2 Q (l.drop k) (m.drop k) = all2 Q l m) (fun k => l.length - k) 0 ⟨Nat.zero_le _, rfl⟩ (head_at [] (by (simp only [go_sem]) <;> rfl) (by (simp only [go_sem]) <;> rfl) ⟨rfl, rfl⟩) ?_
    rintro k ⟨hk, hs⟩ G hG
    refine wg_run ?_
    (simp only [go_sem])
    (first | refine wd_split _ (fun hb => ?_) (fun hb => ?_) | refine wd_nwant _ (fun hb => ?_) (fun hb => ?_) | refine wm_nwant _ (fun hb => ?_) (fun hb => ?_) | refine wd_want _ (fun hb => ?_) (fun hb => ?_) | refine wm_want _ (fun hb => ?_) (fun hb => ?_)) <;> (simp only [go_sem, hb])
    · have hk1 : k < l.length := by have := of_decide_eq_true hb; omega
      have hk2 : decide ((k : Int) < (m.length : Int)) = true := by simp; omega
      rw [all2_kid hk1 (by omega)] at hs
      have hw1 := wrap_succ hk1 (by omega)
      (simp only [go_sem, hk2])
      (first | refine wd_fn (by (simp only [go_sem]) <;> rfl) (hg k hk1 (by omega)) ?_ | refine wm_fn (by (simp only [go_sem]) <;> rfl) (hg k hk1 (by omega)) (by (simp only [go_sem]) <;> rfl) (by (simp only [go_sem]) <;> rfl) ?_); (simp only [go_sem])
      repeat' (first | ((first | refine wd_split _ (fun hb => ?_) (fun hb => ?_) | refine wd_nwant _ (fun hb => ?_) (fun hb => ?_) | refine wm_nwant _ (fun hb => ?_) (fun hb => ?_) | refine wd_want _ (fun hb => ?_) (fun hb => ?_) | refine wm_want _ (fun hb => ?_) (fun hb => ?_)) <;> (simp only [go_sem, hb, hw1])) | (refine wm_done ?_; (simp only [go_sem, hw1])) | (refine wg_run ?_; (simp only [go_sem, hw1])) | (simp only [go_sem, hw1]))
      · exact hG (k + 1) _ _ ⟨by omega, by simpa [hb] using hs⟩ (by omega) (head_at [] (by (simp only [go_sem]) <;> rfl) (by (simp only [go_sem]) <;> rfl) ⟨rfl, rfl⟩)
      · (refine hR _ (ret_at [] (by (simp only [go_sem]) <;> rfl) (by (simp only [go_sem]) <;> rfl) ⟨?_, rfl⟩))
        simpa [hb] using hs
    · have hk1 : ¬ k < l.length := by have := of_decide_eq_false hb; omega
      rw [all2_end hk1 hlm] at hs
      (refine hR _ (ret_at [] (by (simp only [go_sem]) <;> rfl) (by (simp only [go_sem]) <;> rfl) ⟨?_, rfl⟩))
      simpa using hs
theorem iSame (n : Nat) (hn : n ≤ 4611686018427387904) : ∀ a b : Ty, a.size < n → AFn Try.prog 27 [.agg (tyC a), .agg (tyC b)] (.one (.sc (.bool (a.same b)))) := by
  induction n with
  | zero => intro a b h; omega
  | succ n ih =>
    intro a b h
    have hl : a.kids.length < 4611686018427387904 := by have := Ty.length_le_sizes a.kids; cases a; simp only [Ty.size, Ty.kids] at *; omega
    have hk : ∀ k, k < a.kids.length → k < b.kids.length → AFn Try.prog 27 [.agg (tyC (kid a.kids k)), .agg (tyC (kid b.kids k))] (.one (.sc (.bool ((kid a.kids k).same (kid b.kids k))))) := fun k h1 h2 => ih (by omega) _ _ (by have := kid_lt h1; omega)
    have hf := eqFunc _ Ty.same a.kids b.kids hl hk
    clear hk ih
    rw [Ty.same_eq, Ty.sames_all2]
    refine fn_in ?_; refine acl_in Try.func27 rfl isfn_27 (Nat.le_of_ble_eq_true rfl) (fun R hR => ?_); rw [Try.results27] at hR; refine wg_run ?_; (simp only [Try.f27, go_sem])
    repeat' (first | (first | ((first | refine wd_split _ (fun hb => ?_) (fun hb => ?_) | refine wd_nwant _ (fun hb => ?_) (fun hb => ?_) | refine wm_nwant _ (fun hb => ?_) (fun hb => ?_) | refine wd_want _ (fun hb => ?_) (fun hb => ?_) | refine wm_want _ (fun hb => ?_) (fun hb => ?_)) <;> (simp only [go_sem, hb])) | (refine wm_done ?_; (simp only [go_sem])) | (refine wg_run ?_; (simp only [go_sem]))) | (first | refine wd_fn (by (simp only [go_sem]) <;> rfl) (hf) ?_ | refine wm_fn (by (simp only [go_sem]) <;> rfl) (hf) (by (simp only [go_sem]) <;> rfl) (by (simp only [go_sem]) <;> rfl) ?_); (simp only [go_sem]) | ((first | refine wd_mix 6 [] follows (by decide +kernel) (by (simp only [go_sem]) <;> rfl) ?_ | refine wd_mix 5 [] follows (by decide +kernel) (by (simp only [go_sem]) <;> rfl) ?_ | refine wd_mix 4 [] follows (by decide +kernel) (by (simp only [go_sem]) <;> rfl) ?_ | refine wd_mix 3 [] follows (by decide +kernel) (by (simp only [go_sem]) <;> rfl) ?_ | refine wd_mix 2 [] follows (by decide +kernel) (by (simp only [go_sem]) <;> rfl) ?_ | refine wd_mix 1 [] follows (by decide +kernel) (by (simp only [go_sem]) <;> rfl) ?_ | refine wd_mix 0 [] follows (by decide +kernel) (by (simp only [go_sem]) <;> rfl) ?_); (simp only [go_sem])))
    all_goals (refine hR _ (ret_at [] (by (simp only [go_sem]) <;> rfl) (by (simp only [go_sem]) <;> rfl) ⟨?_, rfl⟩))
    all_goals simp_all
theorem iCons (n : Nat) (hn : n ≤ 4611686018427387904) : ∀ a b : Ty, a.size < n → AFn Try.prog 45 [.agg (tyC a), .agg (tyC b)] (.one (.sc (.bool (a.cons b)))) := by
  induction n with
  | zero => intro a b h; omega
  | succ n ih =>
    intro a b h
    have hl : a.kids.length < 4611686018427387904 := by have := Ty.length_le_sizes a.kids; cases a; simp only [Ty.size, Ty.kids] at *; omega
    have hk : ∀ k, k < a.kids.length → k < b.kids.length → AFn Try.prog 45 [.agg (tyC (kid a.kids k)), .agg (tyC (kid b.kids k))] (.one (.sc (.bool ((kid a.kids k).cons (kid b.kids k))))) := fun k h1 h2 => ih (by omega) _ _ (by have := kid_lt h1; omega)
    have hf := eqFunc _ Ty.cons a.kids b.kids hl hk
    clear hk ih
    rw [Ty.cons_eq]
    refine fn_in ?_; refine acl_in Try.func45 rfl isfn_45 (Nat.le_of_ble_eq_true rfl) (fun R hR => ?_); rw [Try.results45] at hR; refine wg_run ?_; (simp only [Try.f45, go_sem])
    repeat' (first | (first | ((first | refine wd_split _ (fun hb => ?_) (fun hb => ?_) | refine wd_nwant _ (fun hb => ?_) (fun hb => ?_) | refine wm_nwant _ (fun hb => ?_) (fun hb => ?_) | refine wd_want _ (fun hb => ?_) (fun hb => ?_) | refine wm_want _ (fun hb => ?_) (fun hb => ?_)) <;> (simp only [go_sem, hb])) | (refine wm_done ?_; (simp only [go_sem])) | (refine wg_run ?_; (simp only [go_sem]))) | (first | refine wd_fn (by (simp only [go_sem]) <;> rfl) (hf) ?_ | refine wm_fn (by (simp only [go_sem]) <;> rfl) (hf) (by (simp only [go_sem]) <;> rfl) (by (simp only [go_sem]) <;> rfl) ?_); (simp only [go_sem]) | ((first | refine wd_mix 6 [] follows (by decide +kernel) (by (simp only [go_sem]) <;> rfl) ?_ | refine wd_mix 5 [] follows (by decide +kernel) (by (simp only [go_sem]) <;> rfl) ?_ | refine wd_mix 4 [] follows (by decide +kernel) (by (simp only [go_sem]) <;> rfl) ?_ | refine wd_mix 3 [] follows (by decide +kernel) (by (simp only [go_sem]) <;> rfl) ?_ | refine wd_mix 2 [] follows (by decide +kernel) (by (simp only [go_sem]) <;> rfl) ?_ | refine wd_mix 1 [] follows (by decide +kernel) (by (simp only [go_sem]) <;> rfl) ?_ | refine wd_mix 0 [] follows (by decide +kernel) (by (simp only [go_sem]) <;> rfl) ?_); (simp only [go_sem])))
    all_goals (refine hR _ (ret_at [] (by (simp only [go_sem]) <;> rfl) (by (simp only [go_sem]) <;> rfl) ⟨?_, rfl⟩))
    all_goals simp_all
theorem iPrec (n : Nat) (hn : n ≤ 4611686018427387904) : ∀ a b : Ty, a.size < n → AFn Try.prog 51 [.agg (tyC a), .agg (tyC b)] (.one (.sc (.bool (a.prec b)))) := by
  induction n with
  | zero => intro a b h; omega
  | succ n ih =>
    intro a b h
    have hl : a.kids.length < 4611686018427387904 := by have := Ty.length_le_sizes a.kids; cases a; simp only [Ty.size, Ty.kids] at *; omega
    have hk : ∀ k, k < a.kids.length → k < b.kids.length → AFn Try.prog 51 [.agg (tyC (kid a.kids k)), .agg (tyC (kid b.kids k))] (.one (.sc (.bool ((kid a.kids k).prec (kid b.kids k))))) := fun k h1 h2 => ih (by omega) _ _ (by have := kid_lt h1; omega)
    have hf := eqFunc _ Ty.prec a.kids b.kids hl hk
    clear hk ih
    rw [Ty.prec_eq]
    refine fn_in ?_; refine acl_in Try.func51 rfl isfn_51 (Nat.le_of_ble_eq_true rfl) (fun R hR => ?_); rw [Try.results51] at hR; refine wg_run ?_; (simp only [Try.f51, go_sem])
    repeat' (first | (first | ((first | refine wd_split _ (fun hb => ?_) (fun hb => ?_) | refine wd_nwant _ (fun hb => ?_) (fun hb => ?_) | refine wm_nwant _ (fun hb => ?_) (fun hb => ?_) | refine wd_want _ (fun hb => ?_) (fun hb => ?_) | refine wm_want _ (fun hb => ?_) (fun hb => ?_)) <;> (simp only [go_sem, hb])) | (refine wm_done ?_; (simp only [go_sem])) | (refine wg_run ?_; (simp only [go_sem]))) | (first | refine wd_fn (by (simp only [go_sem]) <;> rfl) (hf) ?_ | refine wm_fn (by (simp only [go_sem]) <;> rfl) (hf) (by (simp only [go_sem]) <;> rfl) (by (simp only [go_sem]) <;> rfl) ?_); (simp only [go_sem]) | ((first | refine wd_mix 6 [] follows (by decide +kernel) (by (simp only [go_sem]) <;> rfl) ?_ | refine wd_mix 5 [] follows (by decide +kernel) (by (simp only [go_sem]) <;> rfl) ?_ | refine wd_mix 4 [] follows (by decide +kernel) (by (simp only [go_sem]) <;> rfl) ?_ | refine wd_mix 3 [] follows (by decide +kernel) (by (simp only [go_sem]) <;> rfl) ?_ | refine wd_mix 2 [] follows (by decide +kernel) (by (simp only [go_sem]) <;> rfl) ?_ | refine wd_mix 1 [] follows (by decide +kernel) (by (simp only [go_sem]) <;> rfl) ?_ | refine wd_mix 0 [] follows (by decide +kernel) (by (simp only [go_sem]) <;> rfl) ?_); (simp only [go_sem])))
    all_goals (refine hR _ (ret_at [] (by (simp only [go_sem]) <;> rfl) (by (simp only [go_sem]) <;> rfl) ⟨?_, rfl⟩))
    all_goals simp_all
/-- the index of the first one, -1 for none -/
def idx (p : Ty → Bool) : Nat → List Ty → Int
  | _, [] => -1
  | k, t :: l => if p t then (k : Nat) else idx p (k + 1) l
theorem idx_lt (p : Ty → Bool) : ∀ (l : List Ty) (k : Nat), idx p k l < 0 ∨ (k : Int) ≤ idx p k l
  | [], k => .inl (by simp [idx])
  | t :: l, k => by
    simp only [idx]
    split
    · right; omega
    · rcases idx_lt p l (k + 1) with h | h
      · exact .inl h
      · right; omega
theorem idx_any (p : Ty → Bool) : ∀ (l : List Ty) (k : Nat), decide (0 ≤ idx p k l) = l.any p
  | [], k => by simp [idx]
  | t :: l, k => by
    simp only [idx, List.any_cons]
    split
    · rename_i h; simp [h]
    · rename_i h; rw [idx_any p l (k + 1)]; simp [h]
theorem indexFunc1 (g : FuncId) (d : Int) (p : Ty → Bool) (l : List Ty) (hl : l.length < 4611686018427387904)
    (hg : ∀ k, k < l.length → ACl Try.prog g [.agg (tyC (kid l k)), .one (.ptr 1 0 0 0)] [⟨1, 3, .mut, [[.sc (.int .i64 d)]]⟩] (fun r H' => r = .one (.sc (.bool (p (kid l k)))) ∧ H' = [⟨1, 3, .mut, [[.sc (.int .i64 d)]]⟩])) :
    ACl Try.prog 74 [.one (.sl (tyR l)), .one (.fn g [.ptr 1 0 0 0])] [⟨1, 3, .mut, [[.sc (.int .i64 d)]]⟩] (fun r H' => r = .one (.sc (.int .i64 (idx p 0 l))) ∧ H' = [⟨1, 3, .mut, [[.sc (.int .i64 d)]]⟩]) := by
  refine acl_in Try.func74 rfl isfn_74 (Nat.le_of_ble_eq_true rfl) (fun R hR => ?_); rw [Try.results74] at hR; refine wg_run ?_; (simp only [Try.f74, go_sem])
  refine wd_for [0, 1, 7, 8] (fun k => [.one (.sl (tyR l)), .one (.fn g [.ptr 1 0 0 0]), .one (.sc (.int .i64 l.length)), .one (.sc (.int .i64 (k : Nat)))]) (fun k => [⟨1, 3, .mut, [[.sc (.int .i64 d)]]⟩])
      (fun k => k ≤ l.length ∧ idx p k (l.drop k) = idx p 0 l) (fun k => l.length - k) 0 ⟨Nat.zero_le _, rfl⟩ (head_at [] (by (simp only [go_sem]) <;> rfl) (by (simp only [go_sem]) <;> rfl) ⟨rfl, rfl⟩) ?_
  rintro k ⟨hk, hs⟩ G hG
  refine wg_run ?_
  (simp only [go_sem])
  (first | refine wd_split _ (fun hb => ?_) (fun hb => ?_) | refine wd_nwant _ (fun hb => ?_) (fun hb => ?_) | refine wm_nwant _ (fun hb => ?_) (fun hb => ?_) | refine wd_want _ (fun hb => ?_) (fun hb => ?_) | refine wm_want _ (fun hb => ?_) (fun hb => ?_)) <;> (simp only [go_sem, hb])
  · have hk1 : k < l.length := by have := of_decide_eq_true hb; omega
    rw [drop_kid hk1, idx] at hs
    have hw1 := wrap_succ hk1 (by omega)
    (first | refine wd_cl [0] (by (simp only [go_sem]) <;> rfl) (hg k hk1) ?_ | refine wm_cl [0] (by (simp only [go_sem]) <;> rfl) (hg k hk1) (by (simp only [go_sem]) <;> rfl) (by (simp only [go_sem]) <;> rfl) ?_); rintro _ _ ⟨rfl, rfl⟩; (simp only [go_sem])
    repeat' (first | ((first | refine wd_split _ (fun hb => ?_) (fun hb => ?_) | refine wd_nwant _ (fun hb => ?_) (fun hb => ?_) | refine wm_nwant _ (fun hb => ?_) (fun hb => ?_) | refine wd_want _ (fun hb => ?_) (fun hb => ?_) | refine wm_want _ (fun hb => ?_) (fun hb => ?_)) <;> (simp only [go_sem, hb, hw1])) | (refine wm_done ?_; (simp only [go_sem, hw1])) | (refine wg_run ?_; (simp only [go_sem, hw1])) | (simp only [go_sem, hw1]))
    · (refine hR _ (ret_at [] (by (simp only [go_sem]) <;> rfl) (by (simp only [go_sem]) <;> rfl) ⟨?_, ?_⟩))
      · simpa [hb] using hs
      · rfl
    · exact hG (k + 1) _ _ ⟨by omega, by simpa [hb] using hs⟩ (by omega) (head_at [] (by (simp only [go_sem]) <;> rfl) (by (simp only [go_sem]) <;> rfl) ⟨rfl, rfl⟩)
  · have hk1 : ¬ k < l.length := by have := of_decide_eq_false hb; omega
    rw [List.drop_eq_nil_of_le (by omega), idx] at hs
    (refine hR _ (ret_at [] (by (simp only [go_sem]) <;> rfl) (by (simp only [go_sem]) <;> rfl) ⟨?_, ?_⟩))
    · rw [← hs]
    · rfl
theorem containsFunc1 (g : FuncId) (d : Int) (p : Ty → Bool) (l : List Ty) (hl : l.length < 4611686018427387904)
    (hg : ∀ k, k < l.length → ACl Try.prog g [.agg (tyC (kid l k)), .one (.ptr 1 0 0 0)] [⟨1, 3, .mut, [[.sc (.int .i64 d)]]⟩] (fun r H' => r = .one (.sc (.bool (p (kid l k)))) ∧ H' = [⟨1, 3, .mut, [[.sc (.int .i64 d)]]⟩])) :
    ACl Try.prog 69 [.one (.sl (tyR l)), .one (.fn g [.ptr 1 0 0 0])] [⟨1, 3, .mut, [[.sc (.int .i64 d)]]⟩] (fun r H' => r = .one (.sc (.bool (l.any p))) ∧ H' = [⟨1, 3, .mut, [[.sc (.int .i64 d)]]⟩]) := by
  have hi := indexFunc1 g d p l hl hg
  refine acl_in Try.func69 rfl isfn_69 (Nat.le_of_ble_eq_true rfl) (fun R hR => ?_); rw [Try.results69] at hR; refine wg_run ?_; (simp only [Try.f69, go_sem])
  (first | refine wd_cl [0] (by (simp only [go_sem]) <;> rfl) (hi) ?_ | refine wm_cl [0] (by (simp only [go_sem]) <;> rfl) (hi) (by (simp only [go_sem]) <;> rfl) (by (simp only [go_sem]) <;> rfl) ?_); rintro _ _ ⟨rfl, rfl⟩; (simp only [go_sem])
  (refine hR _ (ret_at [] (by (simp only [go_sem]) <;> rfl) (by (simp only [go_sem]) <;> rfl) ⟨?_, ?_⟩))
  · rw [← idx_any p l 0]
  · rfl
end Go.Proofs.Ytkkijdlgmlffoaa
