/- Texts of the proof, one behind another. -/
import Derived.Test.YtnaebafafhamjaaGreatK4
import Derived.Test.YtnaebafafhamjaaGreatK5
import Derived.Test.YtnaebafafhamjaaGreatK6
set_option linter.unusedSimpArgs false
set_option linter.unusedVariables false
/- Terms: equality and search of lists, on shadows. -/
namespace Go.Proofs.Sh
open Go.Proofs.Grad
def teall2 (f : Tm → Tm → Bool) : List Tm → List Tm → Bool
  | [], [] => true
  | a :: l, b :: m => f a b && teall2 f l m
  | _, _ => false
theorem teall2_kid {f : Tm → Tm → Bool} {a b : List Tm} {i : Nat} (ha : i < a.length) (hb : i < b.length) : teall2 f (a.drop i) (b.drop i) = (f (teKid a i) (teKid b i) && teall2 f (a.drop (i + 1)) (b.drop (i + 1))) := by
  rw [tedrop_kid ha, tedrop_kid hb]; rfl
theorem teall2_end {f : Tm → Tm → Bool} {a b : List Tm} {i : Nat} (ha : ¬ i < a.length) (hb : a.length = b.length) : teall2 f (a.drop i) (b.drop i) = true := by
  rw [List.drop_eq_nil_of_le (by omega), List.drop_eq_nil_of_le (by omega)]; rfl
theorem teall2_len {f : Tm → Tm → Bool} : ∀ {a b : List Tm}, a.length ≠ b.length → teall2 f a b = false
  | [], [], h => by simp at h
  | [], _ :: _, _ => rfl
  | _ :: _, [], _ => rfl
  | _ :: a, _ :: b, h => by simp only [teall2]; rw [teall2_len (by simpa using h)]; simp
theorem tesames_all2 : ∀ a b : List Tm, Tm.sames a b = teall2 Tm.same a b
  | [], [] => rfl
  | [], _ :: _ => rfl
  | _ :: _, [] => rfl
  | _ :: a, _ :: b => by simp only [Tm.sames, teall2, tesames_all2 a b]
/-- the index of the first one, -1 for none -/
def teidx (p : Tm → Bool) : Nat → List Tm → Int
  | _, [] => -1
  | k, t :: l => if p t then (k : Nat) else teidx p (k + 1) l
theorem teidx_any (p : Tm → Bool) : ∀ (l : List Tm) (k : Nat), decide (0 ≤ teidx p k l) = l.any p
  | [], k => by simp [teidx]
  | t :: l, k => by
    simp only [teidx, List.any_cons]
    split
    · rename_i h; simp [h]
    · rename_i h; rw [teidx_any p l (k + 1)]; simp [h]
end Go.Proofs.Sh
namespace Go.Proofs.YtnaebafafhamjaaGreat
open Go.RowKit Go.Proofs.Sh Go.Proofs.Grad
set_option maxRecDepth 100000
set_option maxHeartbeats 4000000
theorem teIndexFunc0 (g : FuncId) (p : Tm → Bool) (l : List Tm) (hl : l.length < 4611686018427387904)
    (hg : ∀ k, k < l.length → ACl Tryz.prog g [.agg (teC (teKid l k))] [] (fun r H' => r = .one (.sc (.bool (p (teKid l k)))) ∧ H' = [])) :
    ACl Tryz.prog 197 [.one (.sl (teR l)), .one (.fn g [])] [] (fun r H' => r = .one (.sc (.int .i64 (teidx p 0 l))) ∧ H' = []) := by
  refine acl_in Tryz.func197 rfl isfn_197 (Nat.le_of_ble_eq_true rfl) (fun R hR => ?_); rw [Tryz.results197] at hR; refine wg_run ?_; (simp only [Tryz.f197, go_sem])
  refine wd_for [0, 1, 7, 8] (fun k => [.one (.sl (teR l)), .one (.fn g []), .one (.sc (.int .i64 l.length)), .one (.sc (.int .i64 (k : Nat)))]) (fun k => [])
      (fun k => k ≤ l.length ∧ teidx p k (l.drop k) = teidx p 0 l) (fun k => l.length - k) 0 ⟨Nat.zero_le _, rfl⟩ (hat [] (hI := ⟨rfl, rfl⟩)) ?_
  rintro k ⟨hk, hs⟩ G hG
  refine wg_run ?_
  (simp only [go_sem])
  ((first | refine sp1 ?_ ?_ | refine sp2 ?_ ?_ | refine sp3 ?_ ?_ | refine sp4 ?_ ?_ | refine sp5 ?_ ?_ | refine sp6 ?_ ?_ | refine sp7 ?_ ?_) <;> intro hb) <;> (simp only [go_sem, hb])
  · have hk1 : k < l.length := by have := of_decide_eq_true hb; omega
    rw [tedrop_kid hk1, teidx] at hs
    have hw1 := wrap_succ hk1 (by omega)
    (first | refine kd [] (hc := hg k hk1) (hK := ?_) | refine km [] (hc := hg k hk1) (hK := ?_) | refine kt [] (hc := hg k hk1) (hK := ?_)); rintro _ _ ⟨rfl, rfl⟩; (simp only [go_sem])
    repeat' (first | (simp only [go_sem, hw1]) | (((first | refine sp1 ?_ ?_ | refine sp2 ?_ ?_ | refine sp3 ?_ ?_ | refine sp4 ?_ ?_ | refine sp5 ?_ ?_ | refine sp6 ?_ ?_ | refine sp7 ?_ ?_) <;> intro hb) <;> (simp only [go_sem, hb, hw1])) | ((first | refine wm_done ?_ | refine wt_done ?_ | refine wg_run ?_ | refine fk ?_ ?_) <;> (simp only [go_sem, hw1])))
    · (refine hR _ (rat [] (hK := ⟨?_, ?_⟩)))
      · simpa [hb] using hs
      · rfl
    · exact hG (k + 1) _ _ ⟨by omega, by simpa [hb] using hs⟩ (by omega) (hat [] (hI := ⟨rfl, rfl⟩))
  · have hk1 : ¬ k < l.length := by have := of_decide_eq_false hb; omega
    rw [List.drop_eq_nil_of_le (by omega), teidx] at hs
    (refine hR _ (rat [] (hK := ⟨?_, ?_⟩)))
    · rw [← hs]
    · rfl
theorem teContainsFunc0 (g : FuncId) (p : Tm → Bool) (l : List Tm) (hl : l.length < 4611686018427387904)
    (hg : ∀ k, k < l.length → ACl Tryz.prog g [.agg (teC (teKid l k))] [] (fun r H' => r = .one (.sc (.bool (p (teKid l k)))) ∧ H' = [])) :
    ACl Tryz.prog 158 [.one (.sl (teR l)), .one (.fn g [])] [] (fun r H' => r = .one (.sc (.bool (l.any p))) ∧ H' = []) := by
  have hi := teIndexFunc0 g p l hl hg
  refine acl_in Tryz.func158 rfl isfn_158 (Nat.le_of_ble_eq_true rfl) (fun R hR => ?_); rw [Tryz.results158] at hR; refine wg_run ?_; (simp only [Tryz.f158, go_sem])
  (first | refine kd [] (hc := hi) (hK := ?_) | refine km [] (hc := hi) (hK := ?_) | refine kt [] (hc := hi) (hK := ?_)); rintro _ _ ⟨rfl, rfl⟩; (simp only [go_sem])
  (refine hR _ (rat [] (hK := ⟨?_, ?_⟩)))
  · rw [← teidx_any p l 0]
  · rfl
theorem teIndexFunc1 (g : FuncId) (d : Int) (p : Tm → Bool) (l : List Tm) (hl : l.length < 4611686018427387904)
    (hg : ∀ k, k < l.length → ACl Tryz.prog g [.agg (teC (teKid l k)), .one (.ptr 1 0 0 0)] [⟨1, 3, .mut, [[.sc (.int .i64 d)]]⟩] (fun r H' => r = .one (.sc (.bool (p (teKid l k)))) ∧ H' = [⟨1, 3, .mut, [[.sc (.int .i64 d)]]⟩])) :
    ACl Tryz.prog 197 [.one (.sl (teR l)), .one (.fn g [.ptr 1 0 0 0])] [⟨1, 3, .mut, [[.sc (.int .i64 d)]]⟩] (fun r H' => r = .one (.sc (.int .i64 (teidx p 0 l))) ∧ H' = [⟨1, 3, .mut, [[.sc (.int .i64 d)]]⟩]) := by
  refine acl_in Tryz.func197 rfl isfn_197 (Nat.le_of_ble_eq_true rfl) (fun R hR => ?_); rw [Tryz.results197] at hR; refine wg_run ?_; (simp only [Tryz.f197, go_sem])
  refine wd_for [0, 1, 7, 8] (fun k => [.one (.sl (teR l)), .one (.fn g [.ptr 1 0 0 0]), .one (.sc (.int .i64 l.length)), .one (.sc (.int .i64 (k : Nat)))]) (fun k => [⟨1, 3, .mut, [[.sc (.int .i64 d)]]⟩])
      (fun k => k ≤ l.length ∧ teidx p k (l.drop k) = teidx p 0 l) (fun k => l.length - k) 0 ⟨Nat.zero_le _, rfl⟩ (hat [] (hI := ⟨rfl, rfl⟩)) ?_
  rintro k ⟨hk, hs⟩ G hG
  refine wg_run ?_
  (simp only [go_sem])
  ((first | refine sp1 ?_ ?_ | refine sp2 ?_ ?_ | refine sp3 ?_ ?_ | refine sp4 ?_ ?_ | refine sp5 ?_ ?_ | refine sp6 ?_ ?_ | refine sp7 ?_ ?_) <;> intro hb) <;> (simp only [go_sem, hb])
  · have hk1 : k < l.length := by have := of_decide_eq_true hb; omega
    rw [tedrop_kid hk1, teidx] at hs
    have hw1 := wrap_succ hk1 (by omega)
    (first | refine kd [0] (hc := hg k hk1) (hK := ?_) | refine km [0] (hc := hg k hk1) (hK := ?_) | refine kt [0] (hc := hg k hk1) (hK := ?_)); rintro _ _ ⟨rfl, rfl⟩; (simp only [go_sem])
    repeat' (first | (simp only [go_sem, hw1]) | (((first | refine sp1 ?_ ?_ | refine sp2 ?_ ?_ | refine sp3 ?_ ?_ | refine sp4 ?_ ?_ | refine sp5 ?_ ?_ | refine sp6 ?_ ?_ | refine sp7 ?_ ?_) <;> intro hb) <;> (simp only [go_sem, hb, hw1])) | ((first | refine wm_done ?_ | refine wt_done ?_ | refine wg_run ?_ | refine fk ?_ ?_) <;> (simp only [go_sem, hw1])))
    · (refine hR _ (rat [] (hK := ⟨?_, ?_⟩)))
      · simpa [hb] using hs
      · rfl
    · exact hG (k + 1) _ _ ⟨by omega, by simpa [hb] using hs⟩ (by omega) (hat [] (hI := ⟨rfl, rfl⟩))
  · have hk1 : ¬ k < l.length := by have := of_decide_eq_false hb; omega
    rw [List.drop_eq_nil_of_le (by omega), teidx] at hs
    (refine hR _ (rat [] (hK := ⟨?_, ?_⟩)))
    · rw [← hs]
    · rfl
theorem teContainsFunc1 (g : FuncId) (d : Int) (p : Tm → Bool) (l : List Tm) (hl : l.length < 4611686018427387904)
    (hg : ∀ k, k < l.length → ACl Tryz.prog g [.agg (teC (teKid l k)), .one (.ptr 1 0 0 0)] [⟨1, 3, .mut, [[.sc (.int .i64 d)]]⟩] (fun r H' => r = .one (.sc (.bool (p (teKid l k)))) ∧ H' = [⟨1, 3, .mut, [[.sc (.int .i64 d)]]⟩])) :
    ACl Tryz.prog 158 [.one (.sl (teR l)), .one (.fn g [.ptr 1 0 0 0])] [⟨1, 3, .mut, [[.sc (.int .i64 d)]]⟩] (fun r H' => r = .one (.sc (.bool (l.any p))) ∧ H' = [⟨1, 3, .mut, [[.sc (.int .i64 d)]]⟩]) := by
  have hi := teIndexFunc1 g d p l hl hg
  refine acl_in Tryz.func158 rfl isfn_158 (Nat.le_of_ble_eq_true rfl) (fun R hR => ?_); rw [Tryz.results158] at hR; refine wg_run ?_; (simp only [Tryz.f158, go_sem])
  (first | refine kd [0] (hc := hi) (hK := ?_) | refine km [0] (hc := hi) (hK := ?_) | refine kt [0] (hc := hi) (hK := ?_)); rintro _ _ ⟨rfl, rfl⟩; (simp only [go_sem])
  (refine hR _ (rat [] (hK := ⟨?_, ?_⟩)))
  · rw [← teidx_any p l 0]
  · rfl
end Go.Proofs.YtnaebafafhamjaaGreat
/- Types: the program's checks, on shadows. -/
namespace Go.Proofs.Sh
open Go.Proofs.Grad
theorem all2_kid {f : Ty → Ty → Bool} {a b : List Ty} {i : Nat} (ha : i < a.length) (hb : i < b.length) : all2 f (a.drop i) (b.drop i) = (f (kid a i) (kid b i) && all2 f (a.drop (i + 1)) (b.drop (i + 1))) := by
  rw [all2_drop ha hb, kid_eq ha, kid_eq hb]
theorem all2_end {f : Ty → Ty → Bool} {a b : List Ty} {i : Nat} (ha : ¬ i < a.length) (hb : a.length = b.length) : all2 f (a.drop i) (b.drop i) = true := by
  rw [List.drop_eq_nil_of_le (by omega), List.drop_eq_nil_of_le (by omega)]; rfl
/-- a type of a size that numbers hold -/
def Big : Nat := 4611686018427387904
end Go.Proofs.Sh
namespace Go.Proofs.YtnaebafafhamjaaGreat
open Go.RowKit Go.Proofs.Sh Go.Proofs.Grad
set_option maxRecDepth 100000
set_option maxHeartbeats 4000000
theorem eqFunc (g : FuncId) (Q : Ty → Ty → Bool) (l m : List Ty) (hl : l.length < 4611686018427387904)
    (hg : ∀ k, k < l.length → k < m.length → AFn Tryz.prog g [.agg (tyC (kid l k)), .agg (tyC (kid m k))] (.one (.sc (.bool (Q (kid l k) (kid m k)))))) :
    AFn Tryz.prog 132 [.one (.sl (tyR l)), .one (.sl (tyR m)), .one (.fn g [])] (.one (.sc (.bool (all2 Q l m)))) := by
  refine fn_in ?_; refine acl_in Tryz.func132 rfl isfn_132 (Nat.le_of_ble_eq_true rfl) (fun R hR => ?_); rw [Tryz.results132] at hR; refine wg_run ?_; (simp only [Tryz.f132, go_sem])
  repeat' (first | (((first | refine sp1 ?_ ?_ | refine sp2 ?_ ?_ | refine sp3 ?_ ?_ | refine sp4 ?_ ?_ | refine sp5 ?_ ?_ | refine sp6 ?_ ?_ | refine sp7 ?_ ?_) <;> intro hb) <;> (simp only [go_sem, hb])) | ((first | refine wm_done ?_ | refine wt_done ?_ | refine wg_run ?_ | refine fk ?_ ?_) <;> (simp only [go_sem])))
  · (refine hR _ (rat [] (hK := ⟨?_, rfl⟩)))
    rw [all2_len]
    intro h; simp [h] at hb
  · have hlm : l.length = m.length := by simp at hb; omega
    clear hb
    refine wd_for [0, 1, 2, 15, 16, 17] (fun k => [.one (.sl (tyR l)), .one (.sl (tyR m)), .one (.fn g []), .one (.sl (tyR l)), .one (.sc (.int .i64 l.length)), .one (.sc (.int .i64 (k : Nat)))]) (fun k => [])
      (fun k => k ≤ l.length ∧ all2 Q (l.drop k) (m.drop k) = all2 Q l m) (fun k => l.length - k) 0 ⟨Nat.zero_le _, rfl⟩ (hat [] (hI := ⟨rfl, rfl⟩)) ?_
    rintro k ⟨hk, hs⟩ G hG
    refine wg_run ?_
    (simp only [go_sem])
    ((first | refine sp1 ?_ ?_ | refine sp2 ?_ ?_ | refine sp3 ?_ ?_ | refine sp4 ?_ ?_ | refine sp5 ?_ ?_ | refine sp6 ?_ ?_ | refine sp7 ?_ ?_) <;> intro hb) <;> (simp only [go_sem, hb])
    · have hk1 : k < l.length := by have := of_decide_eq_true hb; omega
      have hk2 : decide ((k : Int) < (m.length : Int)) = true := by simp; omega
      rw [all2_kid hk1 (by omega)] at hs
      have hw1 := wrap_succ hk1 (by omega)
      (simp only [go_sem, hk2])
      (first | refine cd (hc := hg k hk1 (by omega)) (hK := ?_) | refine cm (hc := hg k hk1 (by omega)) (hK := ?_) | refine ct (hc := hg k hk1 (by omega)) (hK := ?_)); (simp only [go_sem])
      repeat' (first | (simp only [go_sem, hw1]) | (((first | refine sp1 ?_ ?_ | refine sp2 ?_ ?_ | refine sp3 ?_ ?_ | refine sp4 ?_ ?_ | refine sp5 ?_ ?_ | refine sp6 ?_ ?_ | refine sp7 ?_ ?_) <;> intro hb) <;> (simp only [go_sem, hb, hw1])) | ((first | refine wm_done ?_ | refine wt_done ?_ | refine wg_run ?_ | refine fk ?_ ?_) <;> (simp only [go_sem, hw1])))
      · exact hG (k + 1) _ _ ⟨by omega, by simpa [hb] using hs⟩ (by omega) (hat [] (hI := ⟨rfl, rfl⟩))
      · (refine hR _ (rat [] (hK := ⟨?_, rfl⟩)))
        simpa [hb] using hs
    · have hk1 : ¬ k < l.length := by have := of_decide_eq_false hb; omega
      rw [all2_end hk1 hlm] at hs
      (refine hR _ (rat [] (hK := ⟨?_, rfl⟩)))
      simpa using hs
theorem iSame (n : Nat) (hn : n ≤ 4611686018427387904) : ∀ a b : Ty, a.size < n → AFn Tryz.prog 88 [.agg (tyC a), .agg (tyC b)] (.one (.sc (.bool (a.same b)))) := by
  induction n with
  | zero => intro a b h; omega
  | succ n ih =>
    intro a b h
    have hl : a.kids.length < 4611686018427387904 := by have := Ty.length_le_sizes a.kids; cases a; simp only [Ty.size, Ty.kids] at *; omega
    have hk : ∀ k, k < a.kids.length → k < b.kids.length → AFn Tryz.prog 88 [.agg (tyC (kid a.kids k)), .agg (tyC (kid b.kids k))] (.one (.sc (.bool ((kid a.kids k).same (kid b.kids k))))) := fun k h1 h2 => ih (by omega) _ _ (by have := kid_lt h1; omega)
    have hf := eqFunc _ Ty.same a.kids b.kids hl hk
    clear hk ih
    rw [Ty.same_eq, Ty.sames_all2]
    refine fn_in ?_; refine acl_in Tryz.func88 rfl isfn_88 (Nat.le_of_ble_eq_true rfl) (fun R hR => ?_); rw [Tryz.results88] at hR; refine wg_run ?_; (simp only [Tryz.f88, go_sem])
    repeat' (first | (first | (((first | refine sp1 ?_ ?_ | refine sp2 ?_ ?_ | refine sp3 ?_ ?_ | refine sp4 ?_ ?_ | refine sp5 ?_ ?_ | refine sp6 ?_ ?_ | refine sp7 ?_ ?_) <;> intro hb) <;> (simp only [go_sem, hb])) | ((first | refine wm_done ?_ | refine wt_done ?_ | refine wg_run ?_ | refine fk ?_ ?_) <;> (simp only [go_sem]))) | (first | refine cd (hc := hf) (hK := ?_) | refine cm (hc := hf) (hK := ?_) | refine ct (hc := hf) (hK := ?_)); (simp only [go_sem]) | ((first | refine mx 6 [] follows ?_ | refine mx 5 [] follows ?_ | refine mx 4 [] follows ?_ | refine mx 3 [] follows ?_ | refine mx 2 [] follows ?_ | refine mx 1 [] follows ?_ | refine mx 0 [] follows ?_ | fail); (simp only [go_sem])))
    all_goals (refine hR _ (rat [] (hK := ⟨?_, rfl⟩)))
    all_goals simp_all
theorem iCons (n : Nat) (hn : n ≤ 4611686018427387904) : ∀ a b : Ty, a.size < n → AFn Tryz.prog 94 [.agg (tyC a), .agg (tyC b)] (.one (.sc (.bool (a.cons b)))) := by
  induction n with
  | zero => intro a b h; omega
  | succ n ih =>
    intro a b h
    have hl : a.kids.length < 4611686018427387904 := by have := Ty.length_le_sizes a.kids; cases a; simp only [Ty.size, Ty.kids] at *; omega
    have hk : ∀ k, k < a.kids.length → k < b.kids.length → AFn Tryz.prog 94 [.agg (tyC (kid a.kids k)), .agg (tyC (kid b.kids k))] (.one (.sc (.bool ((kid a.kids k).cons (kid b.kids k))))) := fun k h1 h2 => ih (by omega) _ _ (by have := kid_lt h1; omega)
    have hf := eqFunc _ Ty.cons a.kids b.kids hl hk
    clear hk ih
    rw [Ty.cons_eq]
    refine fn_in ?_; refine acl_in Tryz.func94 rfl isfn_94 (Nat.le_of_ble_eq_true rfl) (fun R hR => ?_); rw [Tryz.results94] at hR; refine wg_run ?_; (simp only [Tryz.f94, go_sem])
    repeat' (first | (first | (((first | refine sp1 ?_ ?_ | refine sp2 ?_ ?_ | refine sp3 ?_ ?_ | refine sp4 ?_ ?_ | refine sp5 ?_ ?_ | refine sp6 ?_ ?_ | refine sp7 ?_ ?_) <;> intro hb) <;> (simp only [go_sem, hb])) | ((first | refine wm_done ?_ | refine wt_done ?_ | refine wg_run ?_ | refine fk ?_ ?_) <;> (simp only [go_sem]))) | (first | refine cd (hc := hf) (hK := ?_) | refine cm (hc := hf) (hK := ?_) | refine ct (hc := hf) (hK := ?_)); (simp only [go_sem]) | ((first | refine mx 6 [] follows ?_ | refine mx 5 [] follows ?_ | refine mx 4 [] follows ?_ | refine mx 3 [] follows ?_ | refine mx 2 [] follows ?_ | refine mx 1 [] follows ?_ | refine mx 0 [] follows ?_ | fail); (simp only [go_sem])))
    all_goals (refine hR _ (rat [] (hK := ⟨?_, rfl⟩)))
    all_goals simp_all
/-- the index of the first one, -1 for none -/
def idx (p : Ty → Bool) : Nat → List Ty → Int
  | _, [] => -1
  | k, t :: l => if p t then (k : Nat) else idx p (k + 1) l
theorem idx_lt (p : Ty → Bool) : ∀ (l : List Ty) (k : Nat), idx p k l < 0 ∨ (k : Int) ≤ idx p k l
  | [], k => .inl (by simp [idx])
  | t :: l, k => by
    simp only [idx]
    split
    · right; omega
    · rcases idx_lt p l (k + 1) with h | h
      · exact .inl h
      · right; omega
theorem idx_any (p : Ty → Bool) : ∀ (l : List Ty) (k : Nat), decide (0 ≤ idx p k l) = l.any p
  | [], k => by simp [idx]
  | t :: l, k => by
    simp only [idx, List.any_cons]
    split
    · rename_i h; simp [h]
    · rename_i h; rw [idx_any p l (k + 1)]; simp [h]
theorem indexFunc1 (g : FuncId) (d : Int) (p : Ty → Bool) (l : List Ty) (hl : l.length < 4611686018427387904)
    (hg : ∀ k, k < l.length → ACl Tryz.prog g [.agg (tyC (kid l k)), .one (.ptr 1 0 0 0)] [⟨1, 3, .mut, [[.sc (.int .i64 d)]]⟩] (fun r H' => r = .one (.sc (.bool (p (kid l k)))) ∧ H' = [⟨1, 3, .mut, [[.sc (.int .i64 d)]]⟩])) :
    ACl Tryz.prog 207 [.one (.sl (tyR l)), .one (.fn g [.ptr 1 0 0 0])] [⟨1, 3, .mut, [[.sc (.int .i64 d)]]⟩] (fun r H' => r = .one (.sc (.int .i64 (idx p 0 l))) ∧ H' = [⟨1, 3, .mut, [[.sc (.int .i64 d)]]⟩]) := by
  refine acl_in Tryz.func207 rfl isfn_207 (Nat.le_of_ble_eq_true rfl) (fun R hR => ?_); rw [Tryz.results207] at hR; refine wg_run ?_; (simp only [Tryz.f207, go_sem])
  refine wd_for [0, 1, 7, 8] (fun k => [.one (.sl (tyR l)), .one (.fn g [.ptr 1 0 0 0]), .one (.sc (.int .i64 l.length)), .one (.sc (.int .i64 (k : Nat)))]) (fun k => [⟨1, 3, .mut, [[.sc (.int .i64 d)]]⟩])
      (fun k => k ≤ l.length ∧ idx p k (l.drop k) = idx p 0 l) (fun k => l.length - k) 0 ⟨Nat.zero_le _, rfl⟩ (hat [] (hI := ⟨rfl, rfl⟩)) ?_
  rintro k ⟨hk, hs⟩ G hG
  refine wg_run ?_
  (simp only [go_sem])
  ((first | refine sp1 ?_ ?_ | refine sp2 ?_ ?_ | refine sp3 ?_ ?_ | refine sp4 ?_ ?_ | refine sp5 ?_ ?_ | refine sp6 ?_ ?_ | refine sp7 ?_ ?_) <;> intro hb) <;> (simp only [go_sem, hb])
  · have hk1 : k < l.length := by have := of_decide_eq_true hb; omega
    rw [drop_kid hk1, idx] at hs
    have hw1 := wrap_succ hk1 (by omega)
    (first | refine kd [0] (hc := hg k hk1) (hK := ?_) | refine km [0] (hc := hg k hk1) (hK := ?_) | refine kt [0] (hc := hg k hk1) (hK := ?_)); rintro _ _ ⟨rfl, rfl⟩; (simp only [go_sem])
    repeat' (first | (simp only [go_sem, hw1]) | (((first | refine sp1 ?_ ?_ | refine sp2 ?_ ?_ | refine sp3 ?_ ?_ | refine sp4 ?_ ?_ | refine sp5 ?_ ?_ | refine sp6 ?_ ?_ | refine sp7 ?_ ?_) <;> intro hb) <;> (simp only [go_sem, hb, hw1])) | ((first | refine wm_done ?_ | refine wt_done ?_ | refine wg_run ?_ | refine fk ?_ ?_) <;> (simp only [go_sem, hw1])))
    · (refine hR _ (rat [] (hK := ⟨?_, ?_⟩)))
      · simpa [hb] using hs
      · rfl
    · exact hG (k + 1) _ _ ⟨by omega, by simpa [hb] using hs⟩ (by omega) (hat [] (hI := ⟨rfl, rfl⟩))
  · have hk1 : ¬ k < l.length := by have := of_decide_eq_false hb; omega
    rw [List.drop_eq_nil_of_le (by omega), idx] at hs
    (refine hR _ (rat [] (hK := ⟨?_, ?_⟩)))
    · rw [← hs]
    · rfl
theorem containsFunc1 (g : FuncId) (d : Int) (p : Ty → Bool) (l : List Ty) (hl : l.length < 4611686018427387904)
    (hg : ∀ k, k < l.length → ACl Tryz.prog g [.agg (tyC (kid l k)), .one (.ptr 1 0 0 0)] [⟨1, 3, .mut, [[.sc (.int .i64 d)]]⟩] (fun r H' => r = .one (.sc (.bool (p (kid l k)))) ∧ H' = [⟨1, 3, .mut, [[.sc (.int .i64 d)]]⟩])) :
    ACl Tryz.prog 181 [.one (.sl (tyR l)), .one (.fn g [.ptr 1 0 0 0])] [⟨1, 3, .mut, [[.sc (.int .i64 d)]]⟩] (fun r H' => r = .one (.sc (.bool (l.any p))) ∧ H' = [⟨1, 3, .mut, [[.sc (.int .i64 d)]]⟩]) := by
  have hi := indexFunc1 g d p l hl hg
  refine acl_in Tryz.func181 rfl isfn_181 (Nat.le_of_ble_eq_true rfl) (fun R hR => ?_); rw [Tryz.results181] at hR; refine wg_run ?_; (simp only [Tryz.f181, go_sem])
  (first | refine kd [0] (hc := hi) (hK := ?_) | refine km [0] (hc := hi) (hK := ?_) | refine kt [0] (hc := hi) (hK := ?_)); rintro _ _ ⟨rfl, rfl⟩; (simp only [go_sem])
  (refine hR _ (rat [] (hK := ⟨?_, ?_⟩)))
  · rw [← idx_any p l 0]
  · rfl
end Go.Proofs.YtnaebafafhamjaaGreat
/- Types: validity in the program; checks behind validity. On shadows. -/
namespace Go.Proofs.YtnaebafafhamjaaGreat
open Go.RowKit Go.Proofs.Sh Go.Proofs.Grad
set_option maxRecDepth 100000
set_option maxHeartbeats 4000000
theorem kidsN_le (k : Int) : kidsN k ≤ 2 := by unfold kidsN; split <;> (try split) <;> omega
theorem iScan (m : Nat) (hm : m ≤ 4) : ∀ t : Ty, AFn Tryz.prog 137 [.agg (tyC t), .one (.sc (.int .i64 (5 - (m : Int))))] (.one (.sc (.bool (t.shape m)))) := by
  induction m with
  | zero =>
    intro t
    refine fn_in ?_; refine acl_in Tryz.func137 rfl isfn_137 (Nat.le_of_ble_eq_true rfl) (fun R hR => ?_); rw [Tryz.results137] at hR; refine wg_run ?_; (simp only [Tryz.f137, go_sem])
    repeat' (first | (((first | refine sp1 ?_ ?_ | refine sp2 ?_ ?_ | refine sp3 ?_ ?_ | refine sp4 ?_ ?_ | refine sp5 ?_ ?_ | refine sp6 ?_ ?_ | refine sp7 ?_ ?_) <;> intro hb) <;> (simp only [go_sem, hb])) | ((first | refine wm_done ?_ | refine wt_done ?_ | refine wg_run ?_ | refine fk ?_ ?_) <;> (simp only [go_sem])))
    all_goals (refine hR _ (rat [] (hK := ⟨?_, rfl⟩)))
    all_goals rfl
  | succ m ih =>
    intro t
    have hd : decide (5 - ((m + 1 : Nat) : Int) ≤ 4) = true := by simp; omega
    have hw : IntKind.i64.wrap (5 - ((m + 1 : Nat) : Int) + 1) = 5 - (m : Int) := by rw [IntWalk.i64_in _ (by omega)]; omega
    have hc : t.kids.length < 3 → ACl Tryz.prog 181 [.one (.sl (tyR t.kids)), .one (.fn 182 [.ptr 1 0 0 0])] [⟨1, 3, .mut, [[.sc (.int .i64 (5 - ((m + 1 : Nat) : Int)))]]⟩] (fun r H' => r = .one (.sc (.bool (t.kids.any (fun x => !x.shape m)))) ∧ H' = [⟨1, 3, .mut, [[.sc (.int .i64 (5 - ((m + 1 : Nat) : Int)))]]⟩]) := by
      intro hl
      refine containsFunc1 _ _ (fun x => !x.shape m) _ (by omega) ?_
      intro k hk
      refine acl_in Tryz.func182 rfl isfn_182 (Nat.le_of_ble_eq_true rfl) (fun R hR => ?_); rw [Tryz.results182] at hR; refine wg_run ?_; (simp only [Tryz.f182, go_sem])
      (simp only [go_sem, hw])
      (first | refine cd (hc := ih (by omega) _) (hK := ?_) | refine cm (hc := ih (by omega) _) (hK := ?_) | refine ct (hc := ih (by omega) _) (hK := ?_)); (simp only [go_sem])
      (refine hR _ (rat [] (hK := ⟨?_, ?_⟩)))
      · rfl
      · rfl
    clear ih
    refine fn_in ?_; refine acl_in Tryz.func137 rfl isfn_137 (Nat.le_of_ble_eq_true rfl) (fun R hR => ?_); rw [Tryz.results137] at hR; refine wg_run ?_; (simp only [Tryz.f137, go_sem])
    repeat' (first | (first | (simp only [go_sem, hd]) | (((first | refine sp1 ?_ ?_ | refine sp2 ?_ ?_ | refine sp3 ?_ ?_ | refine sp4 ?_ ?_ | refine sp5 ?_ ?_ | refine sp6 ?_ ?_ | refine sp7 ?_ ?_) <;> intro hb) <;> (simp only [go_sem, hb, hd])) | ((first | refine wm_done ?_ | refine wt_done ?_ | refine wg_run ?_ | refine fk ?_ ?_) <;> (simp only [go_sem, hd]))) | (first | refine kd [1] (hc := hc (by have := beq_iff_eq.1 hb; omega)) (hK := ?_) | refine km [1] (hc := hc (by have := beq_iff_eq.1 hb; omega)) (hK := ?_) | refine kt [1] (hc := hc (by have := beq_iff_eq.1 hb; omega)) (hK := ?_)); rintro _ _ ⟨rfl, rfl⟩; (simp only [go_sem]))
    all_goals (refine hR _ (rat [] (hK := ⟨?_, rfl⟩)))
    all_goals clear hR hc
    all_goals simp_all [Ty.shape, kidsN, List.all_eq_not_any_not]
theorem iValid (t : Ty) : AFn Tryz.prog 90 [.agg (tyC t)] (.one (.sc (.bool t.valid))) := by
  refine fn_in ?_; refine acl_in Tryz.func90 rfl isfn_90 (Nat.le_of_ble_eq_true rfl) (fun R hR => ?_); rw [Tryz.results90] at hR; refine wg_run ?_; (simp only [Tryz.f90, go_sem])
  (first | refine cd (hc := iScan 4 (by omega) _) (hK := ?_) | refine cm (hc := iScan 4 (by omega) _) (hK := ?_) | refine ct (hc := iScan 4 (by omega) _) (hK := ?_)); (simp only [go_sem])
  (refine hR _ (rat [] (hK := ⟨?_, rfl⟩)))
  rfl
theorem Ty.valid_16 {t : Ty} (h : t.valid = true) : t.size < 16 := by
  obtain ⟨x, rfl, hx⟩ := (Ty.valid_iff t).1 h
  rw [T.ty_size]
  have : ∀ (x : T) (d : Nat), x.depth ≤ d → d ≤ 4 → x.size < 2 ^ d := by
    intro x
    induction x with
    | any | int | bool => intro d h1 h2; simp only [T.depth, T.size] at *; exact Nat.one_lt_two_pow (by omega)
    | fn a b iha ihb | pr a b iha ihb =>
      intro d h1 h2
      simp only [T.depth, T.size] at *
      obtain ⟨d, rfl⟩ : ∃ e, d = e + 1 := ⟨d - 1, by omega⟩
      have := iha d (by omega) (by omega); have := ihb d (by omega) (by omega)
      rw [Nat.pow_succ]; omega
  have := this x 4 hx (Nat.le_refl _)
  omega
theorem Ty.valid_size {t : Ty} (h : t.valid = true) : t.size < 4611686018427387904 := by have := Ty.valid_16 h; omega
-- written by gen_on.py
theorem iConsistent (a b : Ty) : AFn Tryz.prog 60 [.agg (tyC a), .agg (tyC b)] (.one (.sc (.bool (onT T.cons a b)))) := by
  have va := iValid a
  have vb := iValid b
  by_cases ha : a.valid = true
  · rw [ha] at va
    by_cases hb' : b.valid = true
    · rw [hb'] at vb
      have hf := fun (x y : T) (e1 : x.ty = a) (e2 : y.ty = b) => by have h := iCons _ (Nat.le_refl _) a b (Ty.valid_size ha); rw [← e1, ← e2, T.cons_ty] at h; exact h
      obtain ⟨x, rfl, hx⟩ := (Ty.valid_iff a).1 ha
      obtain ⟨y, rfl, hy⟩ := (Ty.valid_iff b).1 hb'
      have hf := hf x y rfl rfl
      rw [onT_ty _ hx hy]
      clear ha hb'
      refine fn_in ?_; refine acl_in Tryz.func60 rfl isfn_60 (Nat.le_of_ble_eq_true rfl) (fun R hR => ?_); rw [Tryz.results60] at hR; refine wg_run ?_; (simp only [Tryz.f60, go_sem])
      repeat' (first | (first | (((first | refine sp1 ?_ ?_ | refine sp2 ?_ ?_ | refine sp3 ?_ ?_ | refine sp4 ?_ ?_ | refine sp5 ?_ ?_ | refine sp6 ?_ ?_ | refine sp7 ?_ ?_) <;> intro hb) <;> (simp only [go_sem, hb])) | ((first | refine wm_done ?_ | refine wt_done ?_ | refine wg_run ?_ | refine fk ?_ ?_) <;> (simp only [go_sem]))) | (first | refine cd (hc := va) (hK := ?_) | refine cm (hc := va) (hK := ?_) | refine ct (hc := va) (hK := ?_)); (simp only [go_sem]) | (first | refine cd (hc := vb) (hK := ?_) | refine cm (hc := vb) (hK := ?_) | refine ct (hc := vb) (hK := ?_)); (simp only [go_sem]) | (first | refine cd (hc := hf) (hK := ?_) | refine cm (hc := hf) (hK := ?_) | refine ct (hc := hf) (hK := ?_)); (simp only [go_sem]) | ((first | refine mx 6 [] follows ?_ | refine mx 5 [] follows ?_ | refine mx 4 [] follows ?_ | refine mx 3 [] follows ?_ | refine mx 2 [] follows ?_ | refine mx 1 [] follows ?_ | refine mx 0 [] follows ?_ | fail); (simp only [go_sem])))
      all_goals (refine hR _ (rat [] (hK := ⟨rfl, rfl⟩)))
    · rw [Bool.not_eq_true] at hb'
      rw [onT_off _ (by simp [hb'])]
      rw [hb'] at vb
      clear ha hb'
      refine fn_in ?_; refine acl_in Tryz.func60 rfl isfn_60 (Nat.le_of_ble_eq_true rfl) (fun R hR => ?_); rw [Tryz.results60] at hR; refine wg_run ?_; (simp only [Tryz.f60, go_sem])
      repeat' (first | (first | (((first | refine sp1 ?_ ?_ | refine sp2 ?_ ?_ | refine sp3 ?_ ?_ | refine sp4 ?_ ?_ | refine sp5 ?_ ?_ | refine sp6 ?_ ?_ | refine sp7 ?_ ?_) <;> intro hb) <;> (simp only [go_sem, hb])) | ((first | refine wm_done ?_ | refine wt_done ?_ | refine wg_run ?_ | refine fk ?_ ?_) <;> (simp only [go_sem]))) | (first | refine cd (hc := va) (hK := ?_) | refine cm (hc := va) (hK := ?_) | refine ct (hc := va) (hK := ?_)); (simp only [go_sem]) | (first | refine cd (hc := vb) (hK := ?_) | refine cm (hc := vb) (hK := ?_) | refine ct (hc := vb) (hK := ?_)); (simp only [go_sem]) | ((first | refine mx 6 [] follows ?_ | refine mx 5 [] follows ?_ | refine mx 4 [] follows ?_ | refine mx 3 [] follows ?_ | refine mx 2 [] follows ?_ | refine mx 1 [] follows ?_ | refine mx 0 [] follows ?_ | fail); (simp only [go_sem])))
      all_goals (refine hR _ (rat [] (hK := ⟨rfl, rfl⟩)))
  · rw [Bool.not_eq_true] at ha
    rw [onT_off _ (by simp [ha])]
    rw [ha] at va
    clear ha
    refine fn_in ?_; refine acl_in Tryz.func60 rfl isfn_60 (Nat.le_of_ble_eq_true rfl) (fun R hR => ?_); rw [Tryz.results60] at hR; refine wg_run ?_; (simp only [Tryz.f60, go_sem])
    repeat' (first | (first | (((first | refine sp1 ?_ ?_ | refine sp2 ?_ ?_ | refine sp3 ?_ ?_ | refine sp4 ?_ ?_ | refine sp5 ?_ ?_ | refine sp6 ?_ ?_ | refine sp7 ?_ ?_) <;> intro hb) <;> (simp only [go_sem, hb])) | ((first | refine wm_done ?_ | refine wt_done ?_ | refine wg_run ?_ | refine fk ?_ ?_) <;> (simp only [go_sem]))) | (first | refine cd (hc := va) (hK := ?_) | refine cm (hc := va) (hK := ?_) | refine ct (hc := va) (hK := ?_)); (simp only [go_sem]) | ((first | refine mx 6 [] follows ?_ | refine mx 5 [] follows ?_ | refine mx 4 [] follows ?_ | refine mx 3 [] follows ?_ | refine mx 2 [] follows ?_ | refine mx 1 [] follows ?_ | refine mx 0 [] follows ?_ | fail); (simp only [go_sem])))
    all_goals (refine hR _ (rat [] (hK := ⟨rfl, rfl⟩)))
-- end
end Go.Proofs.YtnaebafafhamjaaGreat
/- Numbers and labels, on shadows. -/
namespace Go.Proofs.YtnaebafafhamjaaGreat
open Go.RowKit Go.Proofs.Sh Go.Proofs.Grad
set_option maxRecDepth 100000
set_option maxHeartbeats 4000000
theorem within (n lo hi : Int) : AFn Tryz.prog 72 [.one (.sc (.int .i64 n)), .one (.sc (.int .i64 lo)), .one (.sc (.int .i64 hi))] (.one (.sc (.bool (decide (lo ≤ n) && decide (n ≤ hi))))) := by
  refine fn_in ?_; refine acl_in Tryz.func72 rfl isfn_72 (Nat.le_of_ble_eq_true rfl) (fun R hR => ?_); rw [Tryz.results72] at hR; refine wg_run ?_; (simp only [Tryz.f72, go_sem])
  repeat' (first | (((first | refine sp1 ?_ ?_ | refine sp2 ?_ ?_ | refine sp3 ?_ ?_ | refine sp4 ?_ ?_ | refine sp5 ?_ ?_ | refine sp6 ?_ ?_ | refine sp7 ?_ ?_) <;> intro hb) <;> (simp only [go_sem, hb])) | ((first | refine wm_done ?_ | refine wt_done ?_ | refine wg_run ?_ | refine fk ?_ ?_) <;> (simp only [go_sem])))
  all_goals (refine hR _ (rat [] (hK := ⟨?_, rfl⟩)))
  all_goals simp [hb]
theorem isLabel (n : Int) : AFn Tryz.prog 61 [.one (.sc (.int .i64 n))] (.one (.sc (.bool (lab n)))) := by
  refine fn_in ?_; refine acl_in Tryz.func61 rfl isfn_61 (Nat.le_of_ble_eq_true rfl) (fun R hR => ?_); rw [Tryz.results61] at hR; refine wg_run ?_; (simp only [Tryz.f61, go_sem])
  repeat' (first | (first | (((first | refine sp1 ?_ ?_ | refine sp2 ?_ ?_ | refine sp3 ?_ ?_ | refine sp4 ?_ ?_ | refine sp5 ?_ ?_ | refine sp6 ?_ ?_ | refine sp7 ?_ ?_) <;> intro hb) <;> (simp only [go_sem, hb])) | ((first | refine wm_done ?_ | refine wt_done ?_ | refine wg_run ?_ | refine fk ?_ ?_) <;> (simp only [go_sem]))) | (first | refine cd (hc := within _ _ _) (hK := ?_) | refine cm (hc := within _ _ _) (hK := ?_) | refine ct (hc := within _ _ _) (hK := ?_)); (simp only [go_sem]))
  all_goals (refine hR _ (rat [] (hK := ⟨?_, rfl⟩)))
  all_goals simp_all [lab]
  all_goals (intros; omega)
/-- the absolute value of a label, 0 for none -/
def labN (n : Int) : Int := if n < -99 ∨ n > 99 then 0 else if n < 0 then -n else n
theorem l1Abs (n : Int) : AFn Tryz.prog 166 [.one (.sc (.int .i64 n))] (.one (.sc (.int .i64 (labN n)))) := by
  by_cases h1 : n < -99
  · have d1 : decide (n < -99) = true := by simp; omega
    have e : labN n = 0 := by unfold labN; rw [if_pos (by omega)]
    rw [e]
    refine fn_in ?_; refine acl_in Tryz.func166 rfl isfn_166 (Nat.le_of_ble_eq_true rfl) (fun R hR => ?_); rw [Tryz.results166] at hR; refine wg_run ?_; (simp only [Tryz.f166, go_sem, d1])
    (refine hR _ (rat [] (hK := ⟨rfl, rfl⟩)))
  · have d1 : decide (n < -99) = false := by simp; omega
    by_cases h2 : n > 99
    · have d2 : decide (n > 99) = true := by simp; omega
      have e : labN n = 0 := by unfold labN; rw [if_pos (by omega)]
      rw [e]
      refine fn_in ?_; refine acl_in Tryz.func166 rfl isfn_166 (Nat.le_of_ble_eq_true rfl) (fun R hR => ?_); rw [Tryz.results166] at hR; refine wg_run ?_; (simp only [Tryz.f166, go_sem, d1, d2])
      (refine hR _ (rat [] (hK := ⟨rfl, rfl⟩)))
    · have d2 : decide (n > 99) = false := by simp; omega
      have hw : IntKind.i64.wrap (0 - n) = -n := by rw [IntWalk.i64_in _ (by omega)]; omega
      by_cases h3 : n < 0
      · have d3 : decide (n < 0) = true := by simp; omega
        have e : labN n = -n := by unfold labN; rw [if_neg (by omega), if_pos h3]
        rw [e]
        refine fn_in ?_; refine acl_in Tryz.func166 rfl isfn_166 (Nat.le_of_ble_eq_true rfl) (fun R hR => ?_); rw [Tryz.results166] at hR; refine wg_run ?_; (simp only [Tryz.f166, go_sem, d1, d2, d3, hw])
        (refine hR _ (rat [] (hK := ⟨rfl, rfl⟩)))
      · have d3 : decide (n < 0) = false := by simp; omega
        have e : labN n = n := by unfold labN; rw [if_neg (by omega), if_neg h3]
        rw [e]
        refine fn_in ?_; refine acl_in Tryz.func166 rfl isfn_166 (Nat.le_of_ble_eq_true rfl) (fun R hR => ?_); rw [Tryz.results166] at hR; refine wg_run ?_; (simp only [Tryz.f166, go_sem, d1, d2, d3])
        (refine hR _ (rat [] (hK := ⟨rfl, rfl⟩)))
end Go.Proofs.YtnaebafafhamjaaGreat
/- Terms: the program's checks, on shadows. -/
namespace Go.Proofs.Sh
open Go.Proofs.Grad
theorem bytes_nil (s : ByteArray) : (s.toList == ByteArray.toList { data := { toList := [] } }) = (s.size == 0) := by
  rw [Bool.eq_iff_iff, beq_iff_eq, beq_iff_eq]
  constructor
  · intro h; rw [bytes_ext h]; rfl
  · intro h; rw [bs_nil h]; rfl
theorem nm_iff (s : ByteArray) : nmOk s = (s.size == 1 && (match s[0]? with | some b => decide (97 ≤ (b.toNat : Int)) && decide ((b.toNat : Int) ≤ 122) | none => false)) := rfl
@[go_sem] theorem opN_1 : opN 1 = 0 := rfl
@[go_sem] theorem opN_2 : opN 2 = 0 := rfl
@[go_sem] theorem opN_3 : opN 3 = 0 := rfl
@[go_sem] theorem opN_4 : opN 4 = 0 := rfl
@[go_sem] theorem opN_5 : opN 5 = 1 := rfl
@[go_sem] theorem opN_6 : opN 6 = 2 := rfl
@[go_sem] theorem opN_7 : opN 7 = 2 := rfl
@[go_sem] theorem opN_8 : opN 8 = 2 := rfl
@[go_sem] theorem opN_9 : opN 9 = 3 := rfl
@[go_sem] theorem opN_10 : opN 10 = 2 := rfl
@[go_sem] theorem opN_11 : opN 11 = 1 := rfl
@[go_sem] theorem opN_12 : opN 12 = 1 := rfl
@[go_sem] theorem opN_13 : opN 13 = 1 := rfl
@[go_sem] theorem opN_14 : opN 14 = 1 := rfl
theorem kinds {k : Int} (h : 1 ≤ k ∧ k ≤ 14) : k = 1 ∨ k = 2 ∨ k = 3 ∨ k = 4 ∨ k = 5 ∨ k = 6 ∨ k = 7 ∨ k = 8 ∨ k = 9 ∨ k = 10 ∨ k = 11 ∨ k = 12 ∨ k = 13 ∨ k = 14 := by omega
theorem opN_bound (k : Int) : opN k ≤ 3 := by unfold opN; repeat' (first | omega | split)
end Go.Proofs.Sh
namespace Go.Proofs.Grad
/-- what is asked of a node but for the number of its operands -/
noncomputable def Tm.ownOk (t : Tm) : Bool :=
  ((if t.kind = 1 ∨ t.kind = 5 then nmOk t.name else t.name.size == 0) &&
  ((decide (0 ≤ t.num) && decide (t.num ≤ if t.kind = 2 then 999 else 0)) &&
  ((if t.kind = 5 ∨ t.kind = 13 ∨ t.kind = 14 then t.type.valid else t.type.isNo) &&
  (if t.kind = 14 then onT T.cons t.frm t.type && lab t.label else t.frm.isNo && t.label == 0))))
theorem Tm.nodeOk_own (t : Tm) : t.nodeOk = (opN t.kind == (t.kids.length : Int) && t.ownOk) := rfl
end Go.Proofs.Grad
namespace Go.Proofs.YtnaebafafhamjaaGreat
open Go.RowKit Go.Proofs.Sh Go.Proofs.Grad
set_option maxRecDepth 100000
set_option maxHeartbeats 8000000
theorem iIsName (s : ByteArray) : AFn Tryz.prog 141 [.one (.sc (.string s))] (.one (.sc (.bool (nmOk s)))) := by
  rw [nm_iff]
  by_cases h : s.size = 1
  · have h0 : s[0]? = some s[0] := getElem?_pos s 0 (by omega)
    have h1 : ((s.size : Int) == 1) = true := by simp; omega
    have h2 : (s.size == 1) = true := by simp; omega
    rw [h0, h2]
    refine fn_in ?_; refine acl_in Tryz.func141 rfl isfn_141 (Nat.le_of_ble_eq_true rfl) (fun R hR => ?_); rw [Tryz.results141] at hR; refine wg_run ?_; (simp only [Tryz.f141, go_sem, h0, h1])
    repeat' (first | (simp only [go_sem, h0]) | (((first | refine sp1 ?_ ?_ | refine sp2 ?_ ?_ | refine sp3 ?_ ?_ | refine sp4 ?_ ?_ | refine sp5 ?_ ?_ | refine sp6 ?_ ?_ | refine sp7 ?_ ?_) <;> intro hb) <;> (simp only [go_sem, hb, h0])) | ((first | refine wm_done ?_ | refine wt_done ?_ | refine wg_run ?_ | refine fk ?_ ?_) <;> (simp only [go_sem, h0])))
    all_goals (refine hR _ (rat [] (hK := ⟨?_, rfl⟩)))
    all_goals simp_all
    all_goals (try (intros; omega))
  · have h1 : ((s.size : Int) == 1) = false := by simp; omega
    have h2 : (s.size == 1) = false := by simp; omega
    rw [h2]
    refine fn_in ?_; refine acl_in Tryz.func141 rfl isfn_141 (Nat.le_of_ble_eq_true rfl) (fun R hR => ?_); rw [Tryz.results141] at hR; refine wg_run ?_; (simp only [Tryz.f141, go_sem, h1])
    repeat' (first | (((first | refine sp1 ?_ ?_ | refine sp2 ?_ ?_ | refine sp3 ?_ ?_ | refine sp4 ?_ ?_ | refine sp5 ?_ ?_ | refine sp6 ?_ ?_ | refine sp7 ?_ ?_) <;> intro hb) <;> (simp only [go_sem, hb])) | ((first | refine wm_done ?_ | refine wt_done ?_ | refine wg_run ?_ | refine fk ?_ ?_) <;> (simp only [go_sem])))
    all_goals (refine hR _ (rat [] (hK := ⟨?_, rfl⟩)))
    all_goals simp_all
theorem iIsNo (t : Ty) : AFn Tryz.prog 142 [.agg (tyC t)] (.one (.sc (.bool t.isNo))) := by
  have e : t.isNo = (t.kind == 0 && ((t.kids.length : Int) == 0)) := by
    simp only [Ty.isNo]; congr 1; rw [Bool.eq_iff_iff]; simp
  rw [e]
  refine fn_in ?_; refine acl_in Tryz.func142 rfl isfn_142 (Nat.le_of_ble_eq_true rfl) (fun R hR => ?_); rw [Tryz.results142] at hR; refine wg_run ?_; (simp only [Tryz.f142, go_sem])
  repeat' (first | (((first | refine sp1 ?_ ?_ | refine sp2 ?_ ?_ | refine sp3 ?_ ?_ | refine sp4 ?_ ?_ | refine sp5 ?_ ?_ | refine sp6 ?_ ?_ | refine sp7 ?_ ?_) <;> intro hb) <;> (simp only [go_sem, hb])) | ((first | refine wm_done ?_ | refine wt_done ?_ | refine wg_run ?_ | refine fk ?_ ?_) <;> (simp only [go_sem])))
  all_goals (refine hR _ (rat [] (hK := ⟨?_, rfl⟩)))
  all_goals simp_all
theorem iOperands (k : Int) : AFn Tryz.prog 140 [.one (.sc (.int .i64 k))] (.one (.sc (.int .i64 (opN k)))) := by
  have hw := within k 1 14
  by_cases h : 1 ≤ k ∧ k ≤ 14
  · obtain rfl | rfl | rfl | rfl | rfl | rfl | rfl | rfl | rfl | rfl | rfl | rfl | rfl | rfl := kinds h
    all_goals
      refine fn_in ?_; refine acl_in Tryz.func140 rfl isfn_140 (Nat.le_of_ble_eq_true rfl) (fun R hR => ?_); rw [Tryz.results140] at hR; refine wg_run ?_; (simp only [Tryz.f140, go_sem])
      repeat' (first | (first | (((first | refine sp1 ?_ ?_ | refine sp2 ?_ ?_ | refine sp3 ?_ ?_ | refine sp4 ?_ ?_ | refine sp5 ?_ ?_ | refine sp6 ?_ ?_ | refine sp7 ?_ ?_) <;> intro hb) <;> (simp only [go_sem, hb])) | ((first | refine wm_done ?_ | refine wt_done ?_ | refine wg_run ?_ | refine fk ?_ ?_) <;> (simp only [go_sem]))) | (first | refine cd (hc := hw) (hK := ?_) | refine cm (hc := hw) (hK := ?_) | refine ct (hc := hw) (hK := ?_)); (simp only [go_sem]))
      (refine hR _ (rat [] (hK := ⟨?_, rfl⟩)))
      rfl
  · have hf : (decide (1 ≤ k) && decide (k ≤ 14)) = false := by simp; omega
    rw [hf] at hw
    refine fn_in ?_; refine acl_in Tryz.func140 rfl isfn_140 (Nat.le_of_ble_eq_true rfl) (fun R hR => ?_); rw [Tryz.results140] at hR; refine wg_run ?_; (simp only [Tryz.f140, go_sem])
    repeat' (first | (first | (((first | refine sp1 ?_ ?_ | refine sp2 ?_ ?_ | refine sp3 ?_ ?_ | refine sp4 ?_ ?_ | refine sp5 ?_ ?_ | refine sp6 ?_ ?_ | refine sp7 ?_ ?_) <;> intro hb) <;> (simp only [go_sem, hb])) | ((first | refine wm_done ?_ | refine wt_done ?_ | refine wg_run ?_ | refine fk ?_ ?_) <;> (simp only [go_sem]))) | (first | refine cd (hc := hw) (hK := ?_) | refine cm (hc := hw) (hK := ?_) | refine ct (hc := hw) (hK := ?_)); (simp only [go_sem]))
    (refine hR _ (rat [] (hK := ⟨?_, rfl⟩)))
    rcases opN_cases k with h' | h'
    · exact absurd h' h
    · rw [h']
theorem iNodeOk (t : Tm) : AFn Tryz.prog 93 [.agg (teC t)] (.one (.sc (.bool t.nodeOk))) := by
  have ho := iOperands t.kind
  have hn := iIsName t.name
  have ht := iValid t.type
  have ht0 := iIsNo t.type
  have hf0 := iIsNo t.frm
  have hc := iConsistent t.frm t.type
  have hl := isLabel t.label
  rw [Tm.nodeOk_own]
  by_cases hlen : opN t.kind = (t.kids.length : Int)
  · have hk : 1 ≤ t.kind ∧ t.kind ≤ 14 := by
      rcases opN_cases t.kind with h | h
      · exact h
      · rw [h] at hlen; omega
    rw [← hlen, beq_self_eq_true, Bool.true_and]
    unfold Tm.ownOk
    obtain h | h | h | h | h | h | h | h | h | h | h | h | h | h := kinds hk
    all_goals rw [h] at hlen ho ⊢
    all_goals simp only [Int.reduceEq, or_true, true_or, or_false, or_self, if_true, if_false, reduceIte, opN_1, opN_2, opN_3, opN_4, opN_5, opN_6, opN_7, opN_8, opN_9, opN_10, opN_11, opN_12, opN_13, opN_14] at hlen ho ⊢
    all_goals
      refine fn_in ?_; refine acl_in Tryz.func93 rfl isfn_93 (Nat.le_of_ble_eq_true rfl) (fun R hR => ?_); rw [Tryz.results93] at hR; refine wg_run ?_; (simp only [Tryz.f93, go_sem, h])
      repeat' (first | (first | (simp only [go_sem, h, ← hlen, bytes_nil, int_bne]) | (((first | refine sp1 ?_ ?_ | refine sp2 ?_ ?_ | refine sp3 ?_ ?_ | refine sp4 ?_ ?_ | refine sp5 ?_ ?_ | refine sp6 ?_ ?_ | refine sp7 ?_ ?_) <;> intro hb) <;> (simp only [go_sem, hb, h, ← hlen, bytes_nil, int_bne])) | ((first | refine wm_done ?_ | refine wt_done ?_ | refine wg_run ?_ | refine fk ?_ ?_) <;> (simp only [go_sem, h, ← hlen, bytes_nil, int_bne]))) | ((first | refine mx 6 [] follows ?_ | refine mx 5 [] follows ?_ | refine mx 4 [] follows ?_ | refine mx 3 [] follows ?_ | refine mx 2 [] follows ?_ | refine mx 1 [] follows ?_ | refine mx 0 [] follows ?_ | fail); (simp only [go_sem, h, ← hlen, bytes_nil, int_bne])) | (first | refine cd (hc := ho) (hK := ?_) | refine cm (hc := ho) (hK := ?_) | refine ct (hc := ho) (hK := ?_)); (simp only [go_sem]) | (first | refine cd (hc := hn) (hK := ?_) | refine cm (hc := hn) (hK := ?_) | refine ct (hc := hn) (hK := ?_)); (simp only [go_sem]) | (first | refine cd (hc := within _ _ _) (hK := ?_) | refine cm (hc := within _ _ _) (hK := ?_) | refine ct (hc := within _ _ _) (hK := ?_)); (simp only [go_sem]) | (first | refine cd (hc := ht) (hK := ?_) | refine cm (hc := ht) (hK := ?_) | refine ct (hc := ht) (hK := ?_)); (simp only [go_sem]) | (first | refine cd (hc := ht0) (hK := ?_) | refine cm (hc := ht0) (hK := ?_) | refine ct (hc := ht0) (hK := ?_)); (simp only [go_sem]) | (first | refine cd (hc := hf0) (hK := ?_) | refine cm (hc := hf0) (hK := ?_) | refine ct (hc := hf0) (hK := ?_)); (simp only [go_sem]) | (first | refine cd (hc := hc) (hK := ?_) | refine cm (hc := hc) (hK := ?_) | refine ct (hc := hc) (hK := ?_)); (simp only [go_sem]) | (first | refine cd (hc := hl) (hK := ?_) | refine cm (hc := hl) (hK := ?_) | refine ct (hc := hl) (hK := ?_)); (simp only [go_sem]))
      all_goals (refine hR _ (rat [] (hK := ⟨?_, rfl⟩)))
      all_goals clear hR ho hn ht ht0 hf0 hc hl
      all_goals simp_all
      all_goals (try grind)
  · have hb0 : (opN t.kind == (t.kids.length : Int)) = false := by simp [hlen]
    rw [hb0]
    refine fn_in ?_; refine acl_in Tryz.func93 rfl isfn_93 (Nat.le_of_ble_eq_true rfl) (fun R hR => ?_); rw [Tryz.results93] at hR; refine wg_run ?_; (simp only [Tryz.f93, go_sem])
    repeat' (first | (first | (simp only [go_sem, hb0, int_bne]) | (((first | refine sp1 ?_ ?_ | refine sp2 ?_ ?_ | refine sp3 ?_ ?_ | refine sp4 ?_ ?_ | refine sp5 ?_ ?_ | refine sp6 ?_ ?_ | refine sp7 ?_ ?_) <;> intro hb) <;> (simp only [go_sem, hb, hb0, int_bne])) | ((first | refine wm_done ?_ | refine wt_done ?_ | refine wg_run ?_ | refine fk ?_ ?_) <;> (simp only [go_sem, hb0, int_bne]))) | ((first | refine mx 6 [] follows ?_ | refine mx 5 [] follows ?_ | refine mx 4 [] follows ?_ | refine mx 3 [] follows ?_ | refine mx 2 [] follows ?_ | refine mx 1 [] follows ?_ | refine mx 0 [] follows ?_ | fail); (simp only [go_sem, hb0, int_bne])) | (first | refine cd (hc := ho) (hK := ?_) | refine cm (hc := ho) (hK := ?_) | refine ct (hc := ho) (hK := ?_)); (simp only [go_sem]))
    (refine hR _ (rat [] (hK := ⟨rfl, rfl⟩)))
end Go.Proofs.YtnaebafafhamjaaGreat
/- Terms: validity in the program, on shadows. -/
namespace Go.Proofs.Grad
theorem Tm.nodess_take {l : List Tm} {k : Nat} (h : k < l.length) : Tm.nodess (l.take (k + 1)) = Tm.nodess (l.take k) + (Sh.teKid l k).nodes := by
  rw [Sh.tetake_kid h]
  induction l.take k with
  | nil => simp [Tm.nodess]
  | cons x m ih => simp only [List.cons_append, Tm.nodess, ih]; omega
theorem Tm.nodess_le_take (l : List Tm) : ∀ k, Tm.nodess (l.take k) ≤ Tm.nodess l := by
  induction l with
  | nil => intro k; simp [Tm.nodess]
  | cons x l ih => intro k; cases k with
    | zero => simp [Tm.nodess]
    | succ k => have := ih k; simp only [List.take_succ_cons, Tm.nodess]; omega
theorem Tm.shape_succ (no : Int) (m : Nat) (t : Tm) : t.shape no (m + 1) = (!(t.kind == no) && (t.nodeOk && t.kids.all (Tm.shape no m))) := rfl
theorem Tm.nodeOk_len {t : Tm} (h : t.nodeOk = true) : t.kids.length ≤ 3 := by
  rw [Tm.nodeOk_own, Bool.and_eq_true, beq_iff_eq] at h
  have := Sh.opN_bound t.kind
  omega
end Go.Proofs.Grad
namespace Go.Proofs.YtnaebafafhamjaaGreat
open Go.RowKit Go.Proofs.Sh Go.Proofs.Grad
set_option maxRecDepth 100000
set_option maxHeartbeats 8000000
theorem iScanT (no : Int) (most D : Nat) (hmost : most ≤ 100000) (hD : D ≤ 100) (m : Nat) (hm : m ≤ D) : ∀ (t : Tm) (c : Nat), c ≤ most → ACl Tryz.prog 59 [.agg (teC t), .one (.sc (.int .i64 ((D : Int) + 1 - (m : Int)))), .one (.sc (.int .i64 (most : Nat))), .one (.sc (.int .i64 (D : Nat))), .one (.sc (.int .i64 no)), .one (.ptr 1 0 0 0)] [⟨1, 3, .mut, [[.sc (.int .i64 (c : Nat))]]⟩]
    (fun r H' => ∃ (b : Bool) (c' : Nat), r = .one (.sc (.bool b)) ∧ H' = [⟨1, 3, .mut, [[.sc (.int .i64 (c' : Nat))]]⟩] ∧ b = (t.shape no m && decide (c + t.nodes ≤ most)) ∧ (b = true → c' = c + t.nodes)) := by
  induction m with
  | zero =>
    intro t c hc
    have hw : IntKind.i64.wrap ((c : Int) + 1) = ((c + 1 : Nat) : Int) := by rw [IntWalk.i64_in _ (by omega)]; omega
    have hd : decide ((D : Int) + 1 - ((0 : Nat) : Int) > (D : Int)) = true := by simp; omega
    simp only [Int.natCast_zero] at hd ⊢
    refine acl_in Tryz.func59 rfl isfn_59 (Nat.le_of_ble_eq_true rfl) (fun R hR => ?_); rw [Tryz.results59] at hR; refine wg_run ?_; (simp only [Tryz.f59, go_sem, hw])
    repeat' (first | (simp only [go_sem, hd]) | (((first | refine sp1 ?_ ?_ | refine sp2 ?_ ?_ | refine sp3 ?_ ?_ | refine sp4 ?_ ?_ | refine sp5 ?_ ?_ | refine sp6 ?_ ?_ | refine sp7 ?_ ?_) <;> intro hb) <;> (simp only [go_sem, hb, hd])) | ((first | refine wm_done ?_ | refine wt_done ?_ | refine wg_run ?_ | refine fk ?_ ?_) <;> (simp only [go_sem, hd])))
    all_goals refine hR _ (rat [] (hK := ⟨false, _, rfl, rfl, ?_, by simp⟩))
    all_goals rfl
  | succ m ih =>
    intro t c hc
    have hw : IntKind.i64.wrap ((c : Int) + 1) = ((c + 1 : Nat) : Int) := by rw [IntWalk.i64_in _ (by omega)]; omega
    have hd : decide ((D : Int) + 1 - ((m + 1 : Nat) : Int) > (D : Int)) = false := by simp; omega
    have hw2 : IntKind.i64.wrap ((D : Int) + 1 - ((m + 1 : Nat) : Int) + 1) = (D : Int) + 1 - (m : Int) := by rw [IntWalk.i64_in _ (by omega)]; omega
    have hno := iNodeOk t
    have hnodes := t.nodes_eq
    by_cases hover : c + 1 ≤ most
    · have ho : decide (((c + 1 : Nat) : Int) > (most : Int)) = false := by simp; omega
      cases hk : (t.kind == no)
      · cases hok : t.nodeOk
        · rw [hok] at hno
          have he : t.shape no (m + 1) = false := by rw [Tm.shape_succ, hok]; simp
          rw [he]
          refine acl_in Tryz.func59 rfl isfn_59 (Nat.le_of_ble_eq_true rfl) (fun R hR => ?_); rw [Tryz.results59] at hR; refine wg_run ?_; (simp only [Tryz.f59, go_sem, hw])
          repeat' (first | (first | (simp only [go_sem, hd, ho, hk]) | (((first | refine sp1 ?_ ?_ | refine sp2 ?_ ?_ | refine sp3 ?_ ?_ | refine sp4 ?_ ?_ | refine sp5 ?_ ?_ | refine sp6 ?_ ?_ | refine sp7 ?_ ?_) <;> intro hb) <;> (simp only [go_sem, hb, hd, ho, hk])) | ((first | refine wm_done ?_ | refine wt_done ?_ | refine wg_run ?_ | refine fk ?_ ?_) <;> (simp only [go_sem, hd, ho, hk]))) | (first | refine cd (hc := hno) (hK := ?_) | refine cm (hc := hno) (hK := ?_) | refine ct (hc := hno) (hK := ?_)); (simp only [go_sem]))
          refine hR _ (rat [] (hK := ⟨false, _, rfl, rfl, rfl, by simp⟩))
        · rw [hok] at hno
          have hlen := Tm.nodeOk_len hok
          have he : t.shape no (m + 1) = t.kids.all (Tm.shape no m) := by rw [Tm.shape_succ, hok, hk]; simp
          rw [he]
          have ih := ih (by omega)
          refine acl_in Tryz.func59 rfl isfn_59 (Nat.le_of_ble_eq_true rfl) (fun R hR => ?_); rw [Tryz.results59] at hR; refine wg_run ?_; (simp only [Tryz.f59, go_sem, hw])
          repeat' (first | (first | (simp only [go_sem, hd, ho, hk]) | (((first | refine sp1 ?_ ?_ | refine sp2 ?_ ?_ | refine sp3 ?_ ?_ | refine sp4 ?_ ?_ | refine sp5 ?_ ?_ | refine sp6 ?_ ?_ | refine sp7 ?_ ?_) <;> intro hb) <;> (simp only [go_sem, hb, hd, ho, hk])) | ((first | refine wm_done ?_ | refine wt_done ?_ | refine wg_run ?_ | refine fk ?_ ?_) <;> (simp only [go_sem, hd, ho, hk]))) | (first | refine cd (hc := hno) (hK := ?_) | refine cm (hc := hno) (hK := ?_) | refine ct (hc := hno) (hK := ?_)); (simp only [go_sem]))
          refine wd_for [1, 2, 3, 4, 5, 42, 43, 44] (fun k => [.one (.sc (.int .i64 ((D : Int) + 1 - ((m + 1 : Nat) : Int)))), .one (.sc (.int .i64 (most : Nat))), .one (.sc (.int .i64 (D : Nat))), .one (.sc (.int .i64 no)), .one (.ptr 1 0 0 0), .one (.sl (teR t.kids)), .one (.sc (.int .i64 t.kids.length)), .one (.sc (.int .i64 (k : Nat)))])
            (fun k => [⟨1, 3, .mut, [[.sc (.int .i64 ((c + 1 + Tm.nodess (t.kids.take k) : Nat) : Int))]]⟩])
            (fun k => k ≤ t.kids.length ∧ c + 1 + Tm.nodess (t.kids.take k) ≤ most ∧ (t.kids.drop k).all (Tm.shape no m) = t.kids.all (Tm.shape no m)) (fun k => t.kids.length - k) 0 ⟨Nat.zero_le _, by simp [Tm.nodess]; omega, rfl⟩ (hat [] (hI := ⟨rfl, by simp [Tm.nodess]⟩)) ?_
          rintro k ⟨hk0, hs, ha⟩ G hG
          refine wg_run ?_
          (simp only [go_sem])
          ((first | refine sp1 ?_ ?_ | refine sp2 ?_ ?_ | refine sp3 ?_ ?_ | refine sp4 ?_ ?_ | refine sp5 ?_ ?_ | refine sp6 ?_ ?_ | refine sp7 ?_ ?_) <;> intro hb) <;> (simp only [go_sem, hb])
          · have hk1 : k < t.kids.length := by have := of_decide_eq_true hb; omega
            have hw1 := wrap_succ hk1 (by omega)
            have hc := ih (teKid t.kids k) (c + 1 + Tm.nodess (t.kids.take k)) hs
            have hnt := Tm.nodess_take hk1
            have hle := Tm.nodess_le_take t.kids (k + 1)
            rw [tedrop_kid hk1, List.all_cons] at ha
            repeat' (first | (first | (simp only [go_sem, hw1, hw2, hb]) | (((first | refine sp1 ?_ ?_ | refine sp2 ?_ ?_ | refine sp3 ?_ ?_ | refine sp4 ?_ ?_ | refine sp5 ?_ ?_ | refine sp6 ?_ ?_ | refine sp7 ?_ ?_) <;> intro hb) <;> (simp only [go_sem, hb, hw1, hw2, hb])) | ((first | refine wm_done ?_ | refine wt_done ?_ | refine wg_run ?_ | refine fk ?_ ?_) <;> (simp only [go_sem, hw1, hw2, hb]))) | ((first | refine kd [0] (hc := hc) (hK := ?_) | refine km [0] (hc := hc) (hK := ?_) | refine kt [0] (hc := hc) (hK := ?_)); rintro _ _ ⟨b, c', rfl, rfl, hbq, hcq⟩ <;> (simp only [go_sem])))
            · have hb2 : b = true := by simpa using hb
              subst hb2
              have := hcq rfl
              subst this
              have hbq := hbq.symm
              rw [Bool.and_eq_true, decide_eq_true_eq] at hbq
              refine hG (k + 1) _ _ ⟨by omega, by omega, ?_⟩ (by omega) (hat [] (hI := ⟨rfl, ?_⟩))
              · rw [← ha, hbq.1]; rfl
              · rw [hnt, Nat.add_assoc (c + 1)]
            · have hb2 : b = false := by simpa using hb
              subst hb2
              refine hR _ (rat [] (hK := ⟨false, _, rfl, rfl, ?_, by simp⟩))
              have hbq := hbq.symm
              rw [Bool.and_eq_false_iff] at hbq
              rcases hbq with h | h
              · rw [← ha, h]; rfl
              · have h := of_decide_eq_false h
                have : ¬ c + t.nodes ≤ most := by omega
                simp [this]
          · have hk1 : k = t.kids.length := by have := of_decide_eq_false hb; omega
            subst hk1
            rw [List.take_length] at hs
            rw [List.drop_length, List.all_nil] at ha
            refine hR _ (rat [] (hK := ⟨true, _, rfl, rfl, ?_, ?_⟩))
            · rw [← ha]
              have : c + t.nodes ≤ most := by omega
              simp [this]
            · intro _; rw [List.take_length]; omega
      · have he : t.shape no (m + 1) = false := by rw [Tm.shape_succ, hk]; simp
        rw [he]
        refine acl_in Tryz.func59 rfl isfn_59 (Nat.le_of_ble_eq_true rfl) (fun R hR => ?_); rw [Tryz.results59] at hR; refine wg_run ?_; (simp only [Tryz.f59, go_sem, hw])
        repeat' (first | (simp only [go_sem, hd, ho, hk]) | (((first | refine sp1 ?_ ?_ | refine sp2 ?_ ?_ | refine sp3 ?_ ?_ | refine sp4 ?_ ?_ | refine sp5 ?_ ?_ | refine sp6 ?_ ?_ | refine sp7 ?_ ?_) <;> intro hb) <;> (simp only [go_sem, hb, hd, ho, hk])) | ((first | refine wm_done ?_ | refine wt_done ?_ | refine wg_run ?_ | refine fk ?_ ?_) <;> (simp only [go_sem, hd, ho, hk])))
        refine hR _ (rat [] (hK := ⟨false, _, rfl, rfl, rfl, by simp⟩))
    · have ho : decide (((c + 1 : Nat) : Int) > (most : Int)) = true := by simp; omega
      have he : decide (c + t.nodes ≤ most) = false := by simp; omega
      rw [he]
      refine acl_in Tryz.func59 rfl isfn_59 (Nat.le_of_ble_eq_true rfl) (fun R hR => ?_); rw [Tryz.results59] at hR; refine wg_run ?_; (simp only [Tryz.f59, go_sem, hw])
      repeat' (first | (simp only [go_sem, ho]) | (((first | refine sp1 ?_ ?_ | refine sp2 ?_ ?_ | refine sp3 ?_ ?_ | refine sp4 ?_ ?_ | refine sp5 ?_ ?_ | refine sp6 ?_ ?_ | refine sp7 ?_ ?_) <;> intro hb) <;> (simp only [go_sem, hb, ho])) | ((first | refine wm_done ?_ | refine wt_done ?_ | refine wg_run ?_ | refine fk ?_ ?_) <;> (simp only [go_sem, ho])))
      refine hR _ (rat [] (hK := ⟨false, _, rfl, rfl, by simp, by simp⟩))
theorem iTermV (t : Tm) : AFn Tryz.prog 66 [.agg (teC t)] (.one (.sc (.bool t.termV))) := by
  have hc := iScanT 14 30 12 (by omega) (by omega) 12 (by omega) t 0 (by omega)
  have e1 : ((12 : Nat) : Int) + 1 - ((12 : Nat) : Int) = 1 := by omega
  rw [e1] at hc
  simp only [Int.cast_ofNat_Int, Int.natCast_zero] at hc
  refine fn_in ?_; refine acl_in Tryz.func66 rfl isfn_66 (Nat.le_of_ble_eq_true rfl) (fun R hR => ?_); rw [Tryz.results66] at hR; refine wg_run ?_; (simp only [Tryz.f66, go_sem])
  repeat' (first | (first | (((first | refine sp1 ?_ ?_ | refine sp2 ?_ ?_ | refine sp3 ?_ ?_ | refine sp4 ?_ ?_ | refine sp5 ?_ ?_ | refine sp6 ?_ ?_ | refine sp7 ?_ ?_) <;> intro hb) <;> (simp only [go_sem, hb])) | ((first | refine wm_done ?_ | refine wt_done ?_ | refine wg_run ?_ | refine fk ?_ ?_) <;> (simp only [go_sem]))) | ((first | refine kd [1] (hc := hc) (hK := ?_) | refine km [1] (hc := hc) (hK := ?_) | refine kt [1] (hc := hc) (hK := ?_)); rintro _ _ ⟨b, c', rfl, rfl, hbq, hcq⟩ <;> (simp only [go_sem])))
  (refine hR _ (rat [] (hK := ⟨?_, rfl⟩)))
  rw [hbq, Nat.zero_add]
  rfl
theorem iCastV (t : Tm) : AFn Tryz.prog 22 [.agg (teC t)] (.one (.sc (.bool t.castV))) := by
  have hc := iScanT 13 200 40 (by omega) (by omega) 40 (by omega) t 0 (by omega)
  have e1 : ((40 : Nat) : Int) + 1 - ((40 : Nat) : Int) = 1 := by omega
  rw [e1] at hc
  simp only [Int.cast_ofNat_Int, Int.natCast_zero] at hc
  refine fn_in ?_; refine acl_in Tryz.func22 rfl isfn_22 (Nat.le_of_ble_eq_true rfl) (fun R hR => ?_); rw [Tryz.results22] at hR; refine wg_run ?_; (simp only [Tryz.f22, go_sem])
  repeat' (first | (first | (((first | refine sp1 ?_ ?_ | refine sp2 ?_ ?_ | refine sp3 ?_ ?_ | refine sp4 ?_ ?_ | refine sp5 ?_ ?_ | refine sp6 ?_ ?_ | refine sp7 ?_ ?_) <;> intro hb) <;> (simp only [go_sem, hb])) | ((first | refine wm_done ?_ | refine wt_done ?_ | refine wg_run ?_ | refine fk ?_ ?_) <;> (simp only [go_sem]))) | ((first | refine kd [1] (hc := hc) (hK := ?_) | refine km [1] (hc := hc) (hK := ?_) | refine kt [1] (hc := hc) (hK := ?_)); rintro _ _ ⟨b, c', rfl, rfl, hbq, hcq⟩ <;> (simp only [go_sem])))
  (refine hR _ (rat [] (hK := ⟨?_, rfl⟩)))
  rw [hbq, Nat.zero_add]
  rfl
end Go.Proofs.YtnaebafafhamjaaGreat
/- Types: the relations of subtyping, on shadows. -/
namespace Go.Proofs.Sh
open Go.Proofs.Grad
@[go_sem] theorem ty_any_kind : T.any.ty.kind = 1 := rfl
@[go_sem] theorem ty_int_kind : T.int.ty.kind = 2 := rfl
@[go_sem] theorem ty_bool_kind : T.bool.ty.kind = 3 := rfl
@[go_sem] theorem ty_fn_kind (a b : T) : (T.fn a b).ty.kind = 4 := rfl
@[go_sem] theorem ty_pr_kind (a b : T) : (T.pr a b).ty.kind = 5 := rfl
@[go_sem] theorem ty_any_kids : T.any.ty.kids = [] := rfl
@[go_sem] theorem ty_int_kids : T.int.ty.kids = [] := rfl
@[go_sem] theorem ty_bool_kids : T.bool.ty.kids = [] := rfl
@[go_sem] theorem ty_fn_kids (a b : T) : (T.fn a b).ty.kids = [a.ty, b.ty] := rfl
@[go_sem] theorem ty_pr_kids (a b : T) : (T.pr a b).ty.kids = [a.ty, b.ty] := rfl
def subM (a b : T) : Nat := 2 * a.size + 2 * b.size + (match b with | .any => 5 | _ => 0)
attribute [go_sem] T.ground
end Go.Proofs.Sh
namespace Go.Proofs.YtnaebafafhamjaaGreat
open Go.RowKit Go.Proofs.Sh Go.Proofs.Grad
set_option maxRecDepth 100000
set_option maxHeartbeats 4000000
theorem l1Any : AFn Tryz.prog 149 [] (.agg (tyC T.any.ty)) := by
  refine fn_in ?_; refine acl_in Tryz.func149 rfl isfn_149 (Nat.le_of_ble_eq_true rfl) (fun R hR => ?_); rw [Tryz.results149] at hR; refine wg_run ?_; (simp only [Tryz.f149, go_sem])
  (refine hR _ (rat [] (hK := ⟨rfl, rfl⟩)))
theorem l1Ground (a : T) : AFn Tryz.prog 139 [.agg (tyC a.ty)] (.agg (tyC a.ground.ty)) := by
  cases a
  all_goals
    refine fn_in ?_; refine acl_in Tryz.func139 rfl isfn_139 (Nat.le_of_ble_eq_true rfl) (fun R hR => ?_); rw [Tryz.results139] at hR; refine wg_run ?_; (simp only [Tryz.f139, go_sem])
    repeat' (first | (first | (((first | refine sp1 ?_ ?_ | refine sp2 ?_ ?_ | refine sp3 ?_ ?_ | refine sp4 ?_ ?_ | refine sp5 ?_ ?_ | refine sp6 ?_ ?_ | refine sp7 ?_ ?_) <;> intro hb) <;> (simp only [go_sem, hb])) | ((first | refine wm_done ?_ | refine wt_done ?_ | refine wg_run ?_ | refine fk ?_ ?_) <;> (simp only [go_sem]))) | (first | refine cd (hc := l1Any) (hK := ?_) | refine cm (hc := l1Any) (hK := ?_) | refine ct (hc := l1Any) (hK := ?_)); (simp only [go_sem]) | (first | (refine wl_next (wg_run ?_); (simp only [go_sem])) | refine wd_rounds 6 ?_) | ((first | refine mx 6 [] follows ?_ | refine mx 5 [] follows ?_ | refine mx 4 [] follows ?_ | refine mx 3 [] follows ?_ | refine mx 2 [] follows ?_ | refine mx 1 [] follows ?_ | refine mx 0 [] follows ?_ | fail); (simp only [go_sem])))
    all_goals (refine hR _ (rat [] (hK := ⟨?_, rfl⟩)))
    all_goals rfl
theorem subM_le (a b : T) : subM a b ≤ 2 * (a.size + b.size) + 5 := by unfold subM; split <;> omega
theorem le_subM (a b : T) : 2 * (a.size + b.size) ≤ subM a b := by unfold subM; split <;> omega
theorem base (k : Int) : AFn Tryz.prog 99 [.one (.sc (.int .i64 k))] (.agg (tyC (.mk k []))) := by
  refine fn_in ?_; refine acl_in Tryz.func99 rfl isfn_99 (Nat.le_of_ble_eq_true rfl) (fun R hR => ?_); rw [Tryz.results99] at hR; refine wg_run ?_; (simp only [Tryz.f99, go_sem])
  (refine hR _ (rat [] (hK := ⟨rfl, rfl⟩)))
theorem both (k : Int) (a b : Ty) : AFn Tryz.prog 134 [.one (.sc (.int .i64 k)), .agg (tyC a), .agg (tyC b)] (.agg (tyC (.mk k [a, b]))) := by
  refine fn_in ?_; refine acl_in Tryz.func134 rfl isfn_134 (Nat.le_of_ble_eq_true rfl) (fun R hR => ?_); rw [Tryz.results134] at hR; refine wg_run ?_; (simp only [Tryz.f134, go_sem])
  (refine hR _ (rat [] (hK := ⟨rfl, rfl⟩)))
theorem iGround (a : T) : AFn Tryz.prog 95 [.one (.sc (.int .i64 a.kind))] (.agg (tyC a.ground.ty)) := by
  rcases a with _ | _ | _ | ⟨a1, a2⟩ | ⟨a1, a2⟩
  all_goals
    simp only [T.kind]
    refine fn_in ?_; refine acl_in Tryz.func95 rfl isfn_95 (Nat.le_of_ble_eq_true rfl) (fun R hR => ?_); rw [Tryz.results95] at hR; refine wg_run ?_; (simp only [Tryz.f95, go_sem])
    repeat' (first | (first | (((first | refine sp1 ?_ ?_ | refine sp2 ?_ ?_ | refine sp3 ?_ ?_ | refine sp4 ?_ ?_ | refine sp5 ?_ ?_ | refine sp6 ?_ ?_ | refine sp7 ?_ ?_) <;> intro hb) <;> (simp only [go_sem, hb])) | ((first | refine wm_done ?_ | refine wt_done ?_ | refine wg_run ?_ | refine fk ?_ ?_) <;> (simp only [go_sem]))) | (first | refine cd (hc := base _) (hK := ?_) | refine cm (hc := base _) (hK := ?_) | refine ct (hc := base _) (hK := ?_)); (simp only [go_sem]) | (first | refine cd (hc := both 4 T.any.ty T.any.ty) (hK := ?_) | refine cm (hc := both 4 T.any.ty T.any.ty) (hK := ?_) | refine ct (hc := both 4 T.any.ty T.any.ty) (hK := ?_)); (simp only [go_sem]) | (first | refine cd (hc := both 5 T.any.ty T.any.ty) (hK := ?_) | refine cm (hc := both 5 T.any.ty T.any.ty) (hK := ?_) | refine ct (hc := both 5 T.any.ty T.any.ty) (hK := ?_)); (simp only [go_sem]) | ((first | refine mx 6 [] follows ?_ | refine mx 5 [] follows ?_ | refine mx 4 [] follows ?_ | refine mx 3 [] follows ?_ | refine mx 2 [] follows ?_ | refine mx 1 [] follows ?_ | refine mx 0 [] follows ?_ | fail); (simp only [go_sem])))
  all_goals (refine hR _ (rat [] (hK := ⟨rfl, rfl⟩)))
end Go.Proofs.YtnaebafafhamjaaGreat
/- Terms: the reference's checks, on shadows. -/
namespace Go.Proofs.YtnaebafafhamjaaGreat
open Go.RowKit Go.Proofs.Sh Go.Proofs.Grad
set_option maxRecDepth 100000
set_option maxHeartbeats 8000000
theorem l2Kids (k : Int) : AFn Tryz.prog 114 [.one (.sc (.int .i64 k))] (.one (.sc (.int .i64 (opN k)))) := by
  by_cases h : 1 ≤ k ∧ k ≤ 14
  · obtain rfl | rfl | rfl | rfl | rfl | rfl | rfl | rfl | rfl | rfl | rfl | rfl | rfl | rfl := kinds h
    all_goals
      refine fn_in ?_; refine acl_in Tryz.func114 rfl isfn_114 (Nat.le_of_ble_eq_true rfl) (fun R hR => ?_); rw [Tryz.results114] at hR; refine wg_run ?_; (simp only [Tryz.f114, go_sem])
      repeat' (first | (((first | refine sp1 ?_ ?_ | refine sp2 ?_ ?_ | refine sp3 ?_ ?_ | refine sp4 ?_ ?_ | refine sp5 ?_ ?_ | refine sp6 ?_ ?_ | refine sp7 ?_ ?_) <;> intro hb) <;> (simp only [go_sem, hb])) | ((first | refine wm_done ?_ | refine wt_done ?_ | refine wg_run ?_ | refine fk ?_ ?_) <;> (simp only [go_sem])))
      (refine hR _ (rat [] (hK := ⟨rfl, rfl⟩)))
  · have e : ∀ n : Int, 1 ≤ n → n ≤ 14 → (k == n) = false := fun n h1 h2 => by rw [beq_eq_false_iff_ne]; omega
    have e1 := e 1 (by omega) (by omega); have e2 := e 2 (by omega) (by omega); have e3 := e 3 (by omega) (by omega); have e4 := e 4 (by omega) (by omega); have e5 := e 5 (by omega) (by omega); have e6 := e 6 (by omega) (by omega); have e7 := e 7 (by omega) (by omega)
    have e8 := e 8 (by omega) (by omega); have e9 := e 9 (by omega) (by omega); have e10 := e 10 (by omega) (by omega); have e11 := e 11 (by omega) (by omega); have e12 := e 12 (by omega) (by omega); have e13 := e 13 (by omega) (by omega); have e14 := e 14 (by omega) (by omega)
    have : opN k = -1 := by
      rcases opN_cases k with h' | h'
      · exact absurd h' h
      · exact h'
    rw [this]
    refine fn_in ?_; refine acl_in Tryz.func114 rfl isfn_114 (Nat.le_of_ble_eq_true rfl) (fun R hR => ?_); rw [Tryz.results114] at hR; refine wg_run ?_; (simp only [Tryz.f114, go_sem, e1, e2, e3, e4, e5, e6, e7, e8, e9, e10, e11, e12, e13, e14])
    repeat' (first | (((first | refine sp1 ?_ ?_ | refine sp2 ?_ ?_ | refine sp3 ?_ ?_ | refine sp4 ?_ ?_ | refine sp5 ?_ ?_ | refine sp6 ?_ ?_ | refine sp7 ?_ ?_) <;> intro hb) <;> (simp only [go_sem, hb])) | ((first | refine wm_done ?_ | refine wt_done ?_ | refine wg_run ?_ | refine fk ?_ ?_) <;> (simp only [go_sem])))
    (refine hR _ (rat [] (hK := ⟨rfl, rfl⟩)))
theorem sName (s : ByteArray) : AFn Tryz.prog 168 [.one (.sc (.string s))] (.one (.sc (.bool (nmOk s)))) := by
  rw [nm_iff]
  by_cases h : s.size = 1
  · have h0 : s[0]? = some s[0] := getElem?_pos s 0 (by omega)
    have h1 : ((s.size : Int) == 1) = true := by simp; omega
    have h2 : (s.size == 1) = true := by simp; omega
    rw [h0, h2]
    refine fn_in ?_; refine acl_in Tryz.func168 rfl isfn_168 (Nat.le_of_ble_eq_true rfl) (fun R hR => ?_); rw [Tryz.results168] at hR; refine wg_run ?_; (simp only [Tryz.f168, go_sem, h0, h1])
    repeat' (first | (simp only [go_sem, h0]) | (((first | refine sp1 ?_ ?_ | refine sp2 ?_ ?_ | refine sp3 ?_ ?_ | refine sp4 ?_ ?_ | refine sp5 ?_ ?_ | refine sp6 ?_ ?_ | refine sp7 ?_ ?_) <;> intro hb) <;> (simp only [go_sem, hb, h0])) | ((first | refine wm_done ?_ | refine wt_done ?_ | refine wg_run ?_ | refine fk ?_ ?_) <;> (simp only [go_sem, h0])))
    all_goals (refine hR _ (rat [] (hK := ⟨?_, rfl⟩)))
    all_goals simp_all
    all_goals (try (intros; omega))
  · have h1 : ((s.size : Int) == 1) = false := by simp; omega
    have h2 : (s.size == 1) = false := by simp; omega
    rw [h2]
    refine fn_in ?_; refine acl_in Tryz.func168 rfl isfn_168 (Nat.le_of_ble_eq_true rfl) (fun R hR => ?_); rw [Tryz.results168] at hR; refine wg_run ?_; (simp only [Tryz.f168, go_sem, h1])
    repeat' (first | (((first | refine sp1 ?_ ?_ | refine sp2 ?_ ?_ | refine sp3 ?_ ?_ | refine sp4 ?_ ?_ | refine sp5 ?_ ?_ | refine sp6 ?_ ?_ | refine sp7 ?_ ?_) <;> intro hb) <;> (simp only [go_sem, hb])) | ((first | refine wm_done ?_ | refine wt_done ?_ | refine wg_run ?_ | refine fk ?_ ?_) <;> (simp only [go_sem])))
    all_goals (refine hR _ (rat [] (hK := ⟨?_, rfl⟩)))
    all_goals simp_all
theorem sNone (t : Ty) : AFn Tryz.prog 169 [.agg (tyC t)] (.one (.sc (.bool t.isNo))) := by
  have e : t.isNo = (t.kind == 0 && ((t.kids.length : Int) == 0)) := by
    simp only [Ty.isNo]; congr 1; rw [Bool.eq_iff_iff]; simp
  rw [e]
  refine fn_in ?_; refine acl_in Tryz.func169 rfl isfn_169 (Nat.le_of_ble_eq_true rfl) (fun R hR => ?_); rw [Tryz.results169] at hR; refine wg_run ?_; (simp only [Tryz.f169, go_sem])
  repeat' (first | (((first | refine sp1 ?_ ?_ | refine sp2 ?_ ?_ | refine sp3 ?_ ?_ | refine sp4 ?_ ?_ | refine sp5 ?_ ?_ | refine sp6 ?_ ?_ | refine sp7 ?_ ?_) <;> intro hb) <;> (simp only [go_sem, hb])) | ((first | refine wm_done ?_ | refine wt_done ?_ | refine wg_run ?_ | refine fk ?_ ?_) <;> (simp only [go_sem])))
  all_goals (refine hR _ (rat [] (hK := ⟨?_, rfl⟩)))
  all_goals simp_all
theorem nmOk_nil {s : ByteArray} (h : s.size = 0) : nmOk s = false := by rw [nm_iff, h]; rfl
theorem l2Own (t : Tm) (h1 : 1 ≤ t.kind) (h2 : t.kind ≤ 13) : AFn Tryz.prog 116 [.agg (teC t)] (.one (.sc (.bool t.ownOk))) := by
  have hn := sName t.name
  have ht := sValid t.type
  have ht0 := sNone t.type
  have hf0 := sNone t.frm
  unfold Tm.ownOk
  have hz : t.name.size = 0 → nmOk t.name = false := nmOk_nil
  obtain h | h | h | h | h | h | h | h | h | h | h | h | h | h := kinds (k := t.kind) ⟨h1, by omega⟩
  all_goals (try (exfalso; omega))
  all_goals rw [h] at ⊢
  all_goals simp only [Int.reduceEq, or_true, true_or, or_false, or_self, if_true, if_false, reduceIte]
  all_goals
    refine fn_in ?_; refine acl_in Tryz.func116 rfl isfn_116 (Nat.le_of_ble_eq_true rfl) (fun R hR => ?_); rw [Tryz.results116] at hR; refine wg_run ?_; (simp only [Tryz.f116, go_sem, h])
    repeat' (first | (first | (simp only [go_sem, h, bytes_nil, int_bne]) | (((first | refine sp1 ?_ ?_ | refine sp2 ?_ ?_ | refine sp3 ?_ ?_ | refine sp4 ?_ ?_ | refine sp5 ?_ ?_ | refine sp6 ?_ ?_ | refine sp7 ?_ ?_) <;> intro hb) <;> (simp only [go_sem, hb, h, bytes_nil, int_bne])) | ((first | refine wm_done ?_ | refine wt_done ?_ | refine wg_run ?_ | refine fk ?_ ?_) <;> (simp only [go_sem, h, bytes_nil, int_bne]))) | ((first | refine mx 6 [] follows ?_ | refine mx 5 [] follows ?_ | refine mx 4 [] follows ?_ | refine mx 3 [] follows ?_ | refine mx 2 [] follows ?_ | refine mx 1 [] follows ?_ | refine mx 0 [] follows ?_ | fail); (simp only [go_sem, h, bytes_nil, int_bne])) | (first | refine cd (hc := hn) (hK := ?_) | refine cm (hc := hn) (hK := ?_) | refine ct (hc := hn) (hK := ?_)); (simp only [go_sem]) | (first | refine cd (hc := ht) (hK := ?_) | refine cm (hc := ht) (hK := ?_) | refine ct (hc := ht) (hK := ?_)); (simp only [go_sem]) | (first | refine cd (hc := ht0) (hK := ?_) | refine cm (hc := ht0) (hK := ?_) | refine ct (hc := ht0) (hK := ?_)); (simp only [go_sem]) | (first | refine cd (hc := hf0) (hK := ?_) | refine cm (hc := hf0) (hK := ?_) | refine ct (hc := hf0) (hK := ?_)); (simp only [go_sem]))
    all_goals (refine hR _ (rat [] (hK := ⟨?_, rfl⟩)))
    all_goals clear hR hn ht ht0 hf0
    all_goals simp_all
    all_goals (try grind)
end Go.Proofs.YtnaebafafhamjaaGreat
/- The plain laws of subtyping. -/
namespace Go.Proofs.Grad

theorem T.cons_symm (a : T) : ∀ b : T, a.cons b = b.cons a := by
  induction a with
  | fn a b iha ihb => intro c; cases c <;> simp [T.cons, iha, ihb]
  | pr a b iha ihb => intro c; cases c <;> simp [T.cons, iha, ihb]
  | _ => intro c; cases c <;> simp [T.cons]

theorem T.sub_trans' : ∀ (n : Nat) (a b c : T), a.size + b.size + c.size < n → a.sub b = true → b.sub c = true → a.sub c = true := by
  intro n
  induction n with
  | zero => intro a b c h; omega
  | succ n ih =>
    intro a b c hn h1 h2
    cases a <;> cases b <;> cases c <;> simp [T.sub] at h1 h2 ⊢ <;> simp only [T.size] at hn <;>
      first
      | exact h1
      | exact ⟨ih _ _ _ (by (try simp only [T.size]); omega) h1.1 h2.1, ih _ _ _ (by (try simp only [T.size]); omega) h1.2 h2.2⟩
      | exact ⟨ih _ _ _ (by (try simp only [T.size]); omega) h2.1 h1.1, ih _ _ _ (by (try simp only [T.size]); omega) h1.2 h2.2⟩
theorem T.sub_trans {a b c : T} (h1 : a.sub b = true) (h2 : b.sub c = true) : a.sub c = true := T.sub_trans' _ a b c (Nat.lt_succ_self _) h1 h2

theorem T.sub_cons' : ∀ (n : Nat) (a b : T), a.size + b.size < n → a.sub b = true → a.cons b = true := by
  intro n
  induction n with
  | zero => intro a b h; omega
  | succ n ih =>
    intro a b hn h1
    cases a <;> cases b <;> simp [T.sub, T.cons] at h1 ⊢ <;> simp only [T.size] at hn <;>
      first
      | exact ⟨ih _ _ (by omega) h1.1, ih _ _ (by omega) h1.2⟩
      | exact ⟨by rw [T.cons_symm]; exact ih _ _ (by omega) h1.1, ih _ _ (by omega) h1.2⟩
theorem T.sub_cons {a b : T} (h1 : a.sub b = true) : a.cons b = true := T.sub_cons' _ a b (Nat.lt_succ_self _) h1

theorem T.prec_eq' : ∀ (n : Nat) (a b : T), a.size + b.size < n → a.prec b = (a.pos b && b.neg a) := by
  intro n
  induction n with
  | zero => intro a b h; omega
  | succ n ih =>
    intro a b hn
    cases a <;> cases b <;> simp [T.prec, T.pos, T.neg] <;> simp only [T.size] at hn <;>
      (rw [ih _ _ (by omega), ih _ _ (by omega)]; grind)
theorem T.prec_eq (a b : T) : a.prec b = (a.pos b && b.neg a) := T.prec_eq' _ a b (Nat.lt_succ_self _)

theorem T.sub_pn' : ∀ (n : Nat) (a b : T), a.size + b.size < n → a.sub b = (a.pos b && a.neg b) := by
  intro n
  induction n with
  | zero => intro a b h; omega
  | succ n ih =>
    intro a b hn
    cases a <;> cases b <;> simp [T.sub, T.pos, T.neg] <;> simp only [T.size] at hn <;>
      (rw [ih _ _ (by (try simp only [T.size]); omega), ih _ _ (by (try simp only [T.size]); omega)]; (try simp [T.pos_any, T.any_neg]); try grind)
theorem T.sub_pn (a b : T) : a.sub b = (a.pos b && a.neg b) := T.sub_pn' _ a b (Nat.lt_succ_self _)

theorem T.sub_refl (a : T) : a.sub a = true := by
  induction a <;> simp [T.sub, *]

theorem T.sub_static : ∀ (n : Nat) (a b : T), a.size + b.size < n → a.count = 0 → b.count = 0 → a.sub b = decide (a = b) := by
  intro n
  induction n with
  | zero => intro a b h; omega
  | succ n ih =>
    intro a b hn h1 h2
    cases a <;> cases b <;> simp [T.sub, T.count] at h1 h2 ⊢ <;> simp only [T.size] at hn <;>
      (rw [ih _ _ (by omega) (by omega) (by omega), ih _ _ (by omega) (by omega) (by omega)]; try grind)
end Go.Proofs.Grad
/- Types: consistency in the reference, on shadows. -/
namespace Go.Proofs.YtnaebafafhamjaaGreat
open Go.RowKit Go.Proofs.Sh Go.Proofs.Grad
set_option maxRecDepth 100000
set_option maxHeartbeats 4000000
theorem l1Cons (n : Nat) : ∀ a b : T, a.size < n → AFn Tryz.prog 109 [.agg (tyC a.ty), .agg (tyC b.ty)] (.one (.sc (.bool (a.cons b)))) := by
  induction n with
  | zero => intro a b h; omega
  | succ n ih =>
    intro a b h
    rcases a with _ | _ | _ | ⟨a1, a2⟩ | ⟨a1, a2⟩ <;> rcases b with _ | _ | _ | ⟨b1, b2⟩ | ⟨b1, b2⟩
    all_goals simp only [T.size] at h
    all_goals
      refine fn_in ?_; refine acl_in Tryz.func109 rfl isfn_109 (Nat.le_of_ble_eq_true rfl) (fun R hR => ?_); rw [Tryz.results109] at hR; refine wg_run ?_; (simp only [Tryz.f109, go_sem])
      repeat' (first | (first | (((first | refine sp1 ?_ ?_ | refine sp2 ?_ ?_ | refine sp3 ?_ ?_ | refine sp4 ?_ ?_ | refine sp5 ?_ ?_ | refine sp6 ?_ ?_ | refine sp7 ?_ ?_) <;> intro hb) <;> (simp only [go_sem, hb])) | ((first | refine wm_done ?_ | refine wt_done ?_ | refine wg_run ?_ | refine fk ?_ ?_) <;> (simp only [go_sem]))) | (first | (refine wl_next (wg_run ?_); (simp only [go_sem])) | refine wd_rounds 6 ?_) | (first | refine cd (hc := ih _ _ (by omega)) (hK := ?_) | refine cm (hc := ih _ _ (by omega)) (hK := ?_) | refine ct (hc := ih _ _ (by omega)) (hK := ?_)); (simp only [go_sem]) | ((first | refine mx 6 [] follows ?_ | refine mx 5 [] follows ?_ | refine mx 4 [] follows ?_ | refine mx 3 [] follows ?_ | refine mx 2 [] follows ?_ | refine mx 1 [] follows ?_ | refine mx 0 [] follows ?_ | fail); (simp only [go_sem])))
      all_goals (refine hR _ (rat [] (hK := ⟨?_, rfl⟩)))
      all_goals simp_all [T.cons]
end Go.Proofs.YtnaebafafhamjaaGreat
/- Terms: validity in the reference, on shadows. -/
namespace Go.Proofs.YtnaebafafhamjaaGreat
open Go.RowKit Go.Proofs.Sh Go.Proofs.Grad
set_option maxRecDepth 100000
set_option maxHeartbeats 8000000
theorem lab_labN (n : Int) : lab n = (decide (labN n ≥ 1) && decide (labN n ≤ 99)) := by
  rw [Bool.eq_iff_iff]; unfold labN lab; simp; split <;> (try split) <;> omega
theorem l4Own (t : Tm) (h : t.kind = 14) : AFn Tryz.prog 115 [.agg (teC t)] (.one (.sc (.bool t.ownOk))) := by
  have ht := sValid t.type
  have hf := sValid t.frm
  have hl := l1Abs t.label
  unfold Tm.ownOk
  rw [h, lab_labN]
  simp only [Int.reduceEq, or_true, true_or, or_false, or_self, if_true, if_false, reduceIte]
  cases e1 : t.type.valid
  · rw [e1] at ht
    rw [onT_off _ (by simp [e1])]
    refine fn_in ?_; refine acl_in Tryz.func115 rfl isfn_115 (Nat.le_of_ble_eq_true rfl) (fun R hR => ?_); rw [Tryz.results115] at hR; refine wg_run ?_; (simp only [Tryz.f115, go_sem])
    repeat' (first | (first | (simp only [go_sem, bytes_nil]) | (((first | refine sp1 ?_ ?_ | refine sp2 ?_ ?_ | refine sp3 ?_ ?_ | refine sp4 ?_ ?_ | refine sp5 ?_ ?_ | refine sp6 ?_ ?_ | refine sp7 ?_ ?_) <;> intro hb) <;> (simp only [go_sem, hb, bytes_nil])) | ((first | refine wm_done ?_ | refine wt_done ?_ | refine wg_run ?_ | refine fk ?_ ?_) <;> (simp only [go_sem, bytes_nil]))) | (first | refine cd (hc := ht) (hK := ?_) | refine cm (hc := ht) (hK := ?_) | refine ct (hc := ht) (hK := ?_)); (simp only [go_sem]) | (first | refine cd (hc := hl) (hK := ?_) | refine cm (hc := hl) (hK := ?_) | refine ct (hc := hl) (hK := ?_)); (simp only [go_sem]))
    all_goals (refine hR _ (rat [] (hK := ⟨?_, rfl⟩)))
    all_goals clear hR ht hf hl
    all_goals simp_all
  · rw [e1] at ht
    cases e2 : t.frm.valid
    · rw [e2] at hf
      rw [onT_off _ (by simp [e2])]
      refine fn_in ?_; refine acl_in Tryz.func115 rfl isfn_115 (Nat.le_of_ble_eq_true rfl) (fun R hR => ?_); rw [Tryz.results115] at hR; refine wg_run ?_; (simp only [Tryz.f115, go_sem])
      repeat' (first | (first | (simp only [go_sem, bytes_nil]) | (((first | refine sp1 ?_ ?_ | refine sp2 ?_ ?_ | refine sp3 ?_ ?_ | refine sp4 ?_ ?_ | refine sp5 ?_ ?_ | refine sp6 ?_ ?_ | refine sp7 ?_ ?_) <;> intro hb) <;> (simp only [go_sem, hb, bytes_nil])) | ((first | refine wm_done ?_ | refine wt_done ?_ | refine wg_run ?_ | refine fk ?_ ?_) <;> (simp only [go_sem, bytes_nil]))) | (first | refine cd (hc := ht) (hK := ?_) | refine cm (hc := ht) (hK := ?_) | refine ct (hc := ht) (hK := ?_)); (simp only [go_sem]) | (first | refine cd (hc := hf) (hK := ?_) | refine cm (hc := hf) (hK := ?_) | refine ct (hc := hf) (hK := ?_)); (simp only [go_sem]) | (first | refine cd (hc := hl) (hK := ?_) | refine cm (hc := hl) (hK := ?_) | refine ct (hc := hl) (hK := ?_)); (simp only [go_sem]))
      all_goals (refine hR _ (rat [] (hK := ⟨?_, rfl⟩)))
      all_goals clear hR ht hf hl
      all_goals simp_all
    · rw [e2] at hf
      obtain ⟨x, hx, hdx⟩ := (Ty.valid_iff _).1 e1
      obtain ⟨y, hy, hdy⟩ := (Ty.valid_iff _).1 e2
      have hc := l1Cons _ y x (Nat.lt_succ_self _)
      rw [← hx, ← hy, onT_ty _ hdy hdx]
      rw [hx, hy] at hc
      refine fn_in ?_; refine acl_in Tryz.func115 rfl isfn_115 (Nat.le_of_ble_eq_true rfl) (fun R hR => ?_); rw [Tryz.results115] at hR; refine wg_run ?_; (simp only [Tryz.f115, go_sem])
      repeat' (first | (first | (simp only [go_sem, bytes_nil]) | (((first | refine sp1 ?_ ?_ | refine sp2 ?_ ?_ | refine sp3 ?_ ?_ | refine sp4 ?_ ?_ | refine sp5 ?_ ?_ | refine sp6 ?_ ?_ | refine sp7 ?_ ?_) <;> intro hb) <;> (simp only [go_sem, hb, bytes_nil])) | ((first | refine wm_done ?_ | refine wt_done ?_ | refine wg_run ?_ | refine fk ?_ ?_) <;> (simp only [go_sem, bytes_nil]))) | (first | refine cd (hc := ht) (hK := ?_) | refine cm (hc := ht) (hK := ?_) | refine ct (hc := ht) (hK := ?_)); (simp only [go_sem]) | (first | refine cd (hc := hf) (hK := ?_) | refine cm (hc := hf) (hK := ?_) | refine ct (hc := hf) (hK := ?_)); (simp only [go_sem]) | (first | refine cd (hc := hl) (hK := ?_) | refine cm (hc := hl) (hK := ?_) | refine ct (hc := hl) (hK := ?_)); (simp only [go_sem]) | (first | refine cd (hc := hc) (hK := ?_) | refine cm (hc := hc) (hK := ?_) | refine ct (hc := hc) (hK := ?_)); (simp only [go_sem]))
      all_goals (refine hR _ (rat [] (hK := ⟨?_, rfl⟩)))
      all_goals clear hR ht hf hl hc
      all_goals simp_all
      all_goals (try grind)
theorem l2Count (n : Nat) (hn : n ≤ 4611686018427387904) : ∀ (t : Tm) (no : Int) (m : Nat), m ≤ 100 → t.size < n → t.shape no m = true → AFn Tryz.prog 75 [.agg (teC t), .one (.sc (.int .i64 (m : Nat)))] (.one (.sc (.int .i64 (t.nodes : Nat)))) := by
  induction n with
  | zero => intro t no m _ h; omega
  | succ n ih =>
    intro t no m hm h hs
    obtain ⟨m, rfl⟩ : ∃ k, m = k + 1 := by cases m with | zero => simp [Tm.shape] at hs | succ k => exact ⟨k, rfl⟩
    have hl := telen_lt t
    have hnl := t.nodes_le
    have hne := t.nodes_eq
    have hd : decide (((m + 1 : Nat) : Int) > 0) = true := by simp only [decide_eq_true_eq]; omega
    have hw : IntKind.i64.wrap (((m + 1 : Nat) : Int) - 1) = (m : Int) := by rw [IntWalk.i64_in _ (by omega)]; omega
    simp only [Tm.shape_succ, Bool.and_eq_true, List.all_eq_true] at hs
    refine fn_in ?_; refine acl_in Tryz.func75 rfl isfn_75 (Nat.le_of_ble_eq_true rfl) (fun R hR => ?_); rw [Tryz.results75] at hR; refine wg_run ?_; (simp only [Tryz.f75, go_sem, hd])
    refine wd_for [1, 2, 5, 6] (fun k => [.one (.sc (.int .i64 ((m + 1 : Nat) : Int))), .one (.ptr 9 0 0 0), .one (.sc (.int .i64 ((1 + Tm.nodess (t.kids.take k) : Nat) : Int))), .one (.sc (.int .i64 (k : Nat)))]) (fun k => [⟨9, 28, .mut, [teC t]⟩])
      (fun k => k ≤ t.kids.length) (fun k => t.kids.length - k) 0 (Nat.zero_le _) (hat [0] (hI := ⟨rfl, rfl⟩)) ?_
    rintro k hk G hG
    refine wg_run ?_
    (simp only [go_sem, hd])
    ((first | refine sp1 ?_ ?_ | refine sp2 ?_ ?_ | refine sp3 ?_ ?_ | refine sp4 ?_ ?_ | refine sp5 ?_ ?_ | refine sp6 ?_ ?_ | refine sp7 ?_ ?_) <;> intro hb) <;> (simp only [go_sem, hb, hd])
    · have hk1 : k < t.kids.length := by have := of_decide_eq_true hb; omega
      have hw1 := wrap_succ hk1 (by omega)
      have hle := Tm.nodess_le_take t.kids (k + 1)
      rw [Tm.nodess_take hk1] at hle
      have hw2 : IntKind.i64.wrap (((1 + Tm.nodess (t.kids.take k) : Nat) : Int) + ((teKid t.kids k).nodes : Int)) = ((1 + Tm.nodess (t.kids.take (k + 1)) : Nat) : Int) := by
        rw [Tm.nodess_take hk1, IntWalk.i64_in _ (by omega)]; omega
      have hc := ih (by omega) (teKid t.kids k) no m (by omega) (by have := teKid_lt hk1; omega) (hs.2.2 _ (by rw [teKid_eq hk1]; exact List.getElem_mem hk1))
      repeat' (first | (first | (simp only [go_sem, hd, hw, hw1, hw2, hb]) | (((first | refine sp1 ?_ ?_ | refine sp2 ?_ ?_ | refine sp3 ?_ ?_ | refine sp4 ?_ ?_ | refine sp5 ?_ ?_ | refine sp6 ?_ ?_ | refine sp7 ?_ ?_) <;> intro hb) <;> (simp only [go_sem, hb, hd, hw, hw1, hw2, hb])) | ((first | refine wm_done ?_ | refine wt_done ?_ | refine wg_run ?_ | refine fk ?_ ?_) <;> (simp only [go_sem, hd, hw, hw1, hw2, hb]))) | (first | refine cd (hc := hc) (hK := ?_) | refine cm (hc := hc) (hK := ?_) | refine ct (hc := hc) (hK := ?_)); (simp only [go_sem]) | ((first | refine mx 6 [] follows ?_ | refine mx 5 [] follows ?_ | refine mx 4 [] follows ?_ | refine mx 3 [] follows ?_ | refine mx 2 [] follows ?_ | refine mx 1 [] follows ?_ | refine mx 0 [] follows ?_ | fail); (simp only [go_sem, hb])))
      exact hG (k + 1) _ _ (by omega) (by omega) (hat [0] (hI := ⟨rfl, rfl⟩))
    · have hk1 : t.kids.take k = t.kids := List.take_of_length_le (by have := of_decide_eq_false hb; omega)
      rw [hk1, ← hne]
      (refine hR _ (rat [] (hK := ⟨rfl, rfl⟩)))

theorem l2Shape (n : Nat) (hn : n ≤ 4611686018427387904) : ∀ (t : Tm) (m : Nat), m ≤ 100 → t.size < n → AFn Tryz.prog 215 [.agg (teC t), .one (.sc (.int .i64 (m : Nat)))] (.one (.sc (.bool (t.shape 14 m)))) := by
  induction n with
  | zero => intro t m _ h; omega
  | succ n ih =>
    intro t m hm h
    cases m with
    | zero =>
      have hd : decide (((0 : Nat) : Int) < 1) = true := rfl
      refine fn_in ?_; refine acl_in Tryz.func215 rfl isfn_215 (Nat.le_of_ble_eq_true rfl) (fun R hR => ?_); rw [Tryz.results215] at hR; refine wg_run ?_; (simp only [Tryz.f215, go_sem, hd])
      repeat' (first | (first | (simp only [go_sem, hd]) | (((first | refine sp1 ?_ ?_ | refine sp2 ?_ ?_ | refine sp3 ?_ ?_ | refine sp4 ?_ ?_ | refine sp5 ?_ ?_ | refine sp6 ?_ ?_ | refine sp7 ?_ ?_) <;> intro hb) <;> (simp only [go_sem, hb, hd])) | ((first | refine wm_done ?_ | refine wt_done ?_ | refine wg_run ?_ | refine fk ?_ ?_) <;> (simp only [go_sem, hd]))) | ((first | refine mx 6 [] follows ?_ | refine mx 5 [] follows ?_ | refine mx 4 [] follows ?_ | refine mx 3 [] follows ?_ | refine mx 2 [] follows ?_ | refine mx 1 [] follows ?_ | refine mx 0 [] follows ?_ | fail); (simp only [go_sem, hd])))
      (refine hR _ (rat [] (hK := ⟨rfl, rfl⟩)))
    | succ m =>
      have hl := telen_lt t
      have hd : decide (((m + 1 : Nat) : Int) < 1) = false := by simp only [decide_eq_false_iff_not]; omega
      have hw : IntKind.i64.wrap (((m + 1 : Nat) : Int) - 1) = (m : Int) := by rw [IntWalk.i64_in _ (by omega)]; omega
      have hk := l2Kids t.kind
      by_cases hlen : opN t.kind = (t.kids.length : Int)
      · have hb0 : (opN t.kind == (t.kids.length : Int)) = true := by simp [hlen]
        have hkd : 1 ≤ t.kind ∧ t.kind ≤ 14 := by
          rcases opN_cases t.kind with h | h
          · exact h
          · rw [h] at hlen; omega
        cases hc14 : (t.kind == 14)
        · have hk13 : t.kind ≤ 13 := by rw [beq_eq_false_iff_ne] at hc14; omega
          have ho := l2Own t hkd.1 hk13
          cases hok : t.ownOk
          · rw [hok] at ho
            have he : t.shape 14 (m + 1) = false := by rw [Tm.shape_succ, Tm.nodeOk_own, hok]; simp
            rw [he]
            refine fn_in ?_; refine acl_in Tryz.func215 rfl isfn_215 (Nat.le_of_ble_eq_true rfl) (fun R hR => ?_); rw [Tryz.results215] at hR; refine wg_run ?_; (simp only [Tryz.f215, go_sem, hd])
            repeat' (first | (first | (simp only [go_sem, hd, hb0, hc14, int_bne]) | (((first | refine sp1 ?_ ?_ | refine sp2 ?_ ?_ | refine sp3 ?_ ?_ | refine sp4 ?_ ?_ | refine sp5 ?_ ?_ | refine sp6 ?_ ?_ | refine sp7 ?_ ?_) <;> intro hb) <;> (simp only [go_sem, hb, hd, hb0, hc14, int_bne])) | ((first | refine wm_done ?_ | refine wt_done ?_ | refine wg_run ?_ | refine fk ?_ ?_) <;> (simp only [go_sem, hd, hb0, hc14, int_bne]))) | ((first | refine mx 6 [] follows ?_ | refine mx 5 [] follows ?_ | refine mx 4 [] follows ?_ | refine mx 3 [] follows ?_ | refine mx 2 [] follows ?_ | refine mx 1 [] follows ?_ | refine mx 0 [] follows ?_ | fail); (simp only [go_sem, hd, hb0, hc14, int_bne])) | (first | refine cd (hc := hk) (hK := ?_) | refine cm (hc := hk) (hK := ?_) | refine ct (hc := hk) (hK := ?_)); (simp only [go_sem]) | (first | refine cd (hc := ho) (hK := ?_) | refine cm (hc := ho) (hK := ?_) | refine ct (hc := ho) (hK := ?_)); (simp only [go_sem]))
            (refine hR _ (rat [] (hK := ⟨rfl, rfl⟩)))
          · rw [hok] at ho
            have he : t.shape 14 (m + 1) = t.kids.all (Tm.shape 14 m) := by rw [Tm.shape_succ, Tm.nodeOk_own, hok, hb0, hc14]; simp
            rw [he]
            refine fn_in ?_; refine acl_in Tryz.func215 rfl isfn_215 (Nat.le_of_ble_eq_true rfl) (fun R hR => ?_); rw [Tryz.results215] at hR; refine wg_run ?_; (simp only [Tryz.f215, go_sem, hd])
            repeat' (first | (first | (simp only [go_sem, hd, hb0, hc14, int_bne]) | (((first | refine sp1 ?_ ?_ | refine sp2 ?_ ?_ | refine sp3 ?_ ?_ | refine sp4 ?_ ?_ | refine sp5 ?_ ?_ | refine sp6 ?_ ?_ | refine sp7 ?_ ?_) <;> intro hb) <;> (simp only [go_sem, hb, hd, hb0, hc14, int_bne])) | ((first | refine wm_done ?_ | refine wt_done ?_ | refine wg_run ?_ | refine fk ?_ ?_) <;> (simp only [go_sem, hd, hb0, hc14, int_bne]))) | ((first | refine mx 6 [] follows ?_ | refine mx 5 [] follows ?_ | refine mx 4 [] follows ?_ | refine mx 3 [] follows ?_ | refine mx 2 [] follows ?_ | refine mx 1 [] follows ?_ | refine mx 0 [] follows ?_ | fail); (simp only [go_sem, hd, hb0, hc14, int_bne])) | (first | refine cd (hc := hk) (hK := ?_) | refine cm (hc := hk) (hK := ?_) | refine ct (hc := hk) (hK := ?_)); (simp only [go_sem]) | (first | refine cd (hc := ho) (hK := ?_) | refine cm (hc := ho) (hK := ?_) | refine ct (hc := ho) (hK := ?_)); (simp only [go_sem]))
            refine wd_for [1, 2, 5] (fun k => [.one (.sc (.int .i64 ((m + 1 : Nat) : Int))), .one (.ptr 9 0 0 0), .one (.sc (.int .i64 (k : Nat)))]) (fun k => [⟨9, 28, .mut, [teC t]⟩])
              (fun k => k ≤ t.kids.length ∧ (t.kids.drop k).all (Tm.shape 14 m) = t.kids.all (Tm.shape 14 m)) (fun k => t.kids.length - k) 0 ⟨Nat.zero_le _, rfl⟩ (hat [0] (hI := ⟨rfl, rfl⟩)) ?_
            rintro k ⟨hk0, hs⟩ G hG
            refine wg_run ?_
            (simp only [go_sem])
            ((first | refine sp1 ?_ ?_ | refine sp2 ?_ ?_ | refine sp3 ?_ ?_ | refine sp4 ?_ ?_ | refine sp5 ?_ ?_ | refine sp6 ?_ ?_ | refine sp7 ?_ ?_) <;> intro hb) <;> (simp only [go_sem, hb, hw])
            · have hk1 : k < t.kids.length := by have := of_decide_eq_true hb; omega
              have hw1 := wrap_succ hk1 (by omega)
              rw [tedrop_kid hk1, List.all_cons] at hs
              have hc := ih (by omega) (teKid t.kids k) m (by omega) (by have := teKid_lt hk1; omega)
              repeat' (first | (first | (simp only [go_sem, hw1, hw, hb]) | (((first | refine sp1 ?_ ?_ | refine sp2 ?_ ?_ | refine sp3 ?_ ?_ | refine sp4 ?_ ?_ | refine sp5 ?_ ?_ | refine sp6 ?_ ?_ | refine sp7 ?_ ?_) <;> intro hb) <;> (simp only [go_sem, hb, hw1, hw, hb])) | ((first | refine wm_done ?_ | refine wt_done ?_ | refine wg_run ?_ | refine fk ?_ ?_) <;> (simp only [go_sem, hw1, hw, hb]))) | (first | refine cd (hc := hc) (hK := ?_) | refine cm (hc := hc) (hK := ?_) | refine ct (hc := hc) (hK := ?_)); (simp only [go_sem]))
              · exact hG (k + 1) _ _ ⟨by omega, by simpa [hb] using hs⟩ (by omega) (hat [0] (hI := ⟨rfl, rfl⟩))
              · (refine hR _ (rat [] (hK := ⟨?_, rfl⟩)))
                simpa [hb] using hs
            · have hk1 : ¬ k < t.kids.length := by have := of_decide_eq_false hb; omega
              rw [List.drop_eq_nil_of_le (by omega)] at hs
              (refine hR _ (rat [] (hK := ⟨?_, rfl⟩)))
              simpa using hs
        · have he : t.shape 14 (m + 1) = false := by rw [Tm.shape_succ, hc14]; simp
          rw [he]
          refine fn_in ?_; refine acl_in Tryz.func215 rfl isfn_215 (Nat.le_of_ble_eq_true rfl) (fun R hR => ?_); rw [Tryz.results215] at hR; refine wg_run ?_; (simp only [Tryz.f215, go_sem, hd])
          repeat' (first | (first | (simp only [go_sem, hd, hb0, hc14, int_bne]) | (((first | refine sp1 ?_ ?_ | refine sp2 ?_ ?_ | refine sp3 ?_ ?_ | refine sp4 ?_ ?_ | refine sp5 ?_ ?_ | refine sp6 ?_ ?_ | refine sp7 ?_ ?_) <;> intro hb) <;> (simp only [go_sem, hb, hd, hb0, hc14, int_bne])) | ((first | refine wm_done ?_ | refine wt_done ?_ | refine wg_run ?_ | refine fk ?_ ?_) <;> (simp only [go_sem, hd, hb0, hc14, int_bne]))) | ((first | refine mx 6 [] follows ?_ | refine mx 5 [] follows ?_ | refine mx 4 [] follows ?_ | refine mx 3 [] follows ?_ | refine mx 2 [] follows ?_ | refine mx 1 [] follows ?_ | refine mx 0 [] follows ?_ | fail); (simp only [go_sem, hd, hb0, hc14, int_bne])) | (first | refine cd (hc := hk) (hK := ?_) | refine cm (hc := hk) (hK := ?_) | refine ct (hc := hk) (hK := ?_)); (simp only [go_sem]))
          (refine hR _ (rat [] (hK := ⟨rfl, rfl⟩)))
      · have hb0 : (opN t.kind == (t.kids.length : Int)) = false := by simp [hlen]
        have he : t.shape 14 (m + 1) = false := by rw [Tm.shape_succ, Tm.nodeOk_own, hb0]; simp
        rw [he]
        refine fn_in ?_; refine acl_in Tryz.func215 rfl isfn_215 (Nat.le_of_ble_eq_true rfl) (fun R hR => ?_); rw [Tryz.results215] at hR; refine wg_run ?_; (simp only [Tryz.f215, go_sem, hd])
        repeat' (first | (first | (simp only [go_sem, hd, hb0, int_bne]) | (((first | refine sp1 ?_ ?_ | refine sp2 ?_ ?_ | refine sp3 ?_ ?_ | refine sp4 ?_ ?_ | refine sp5 ?_ ?_ | refine sp6 ?_ ?_ | refine sp7 ?_ ?_) <;> intro hb) <;> (simp only [go_sem, hb, hd, hb0, int_bne])) | ((first | refine wm_done ?_ | refine wt_done ?_ | refine wg_run ?_ | refine fk ?_ ?_) <;> (simp only [go_sem, hd, hb0, int_bne]))) | ((first | refine mx 6 [] follows ?_ | refine mx 5 [] follows ?_ | refine mx 4 [] follows ?_ | refine mx 3 [] follows ?_ | refine mx 2 [] follows ?_ | refine mx 1 [] follows ?_ | refine mx 0 [] follows ?_ | fail); (simp only [go_sem, hd, hb0, int_bne])) | (first | refine cd (hc := hk) (hK := ?_) | refine cm (hc := hk) (hK := ?_) | refine ct (hc := hk) (hK := ?_)); (simp only [go_sem]))
        (refine hR _ (rat [] (hK := ⟨rfl, rfl⟩)))
theorem l4Shape (n : Nat) (hn : n ≤ 4611686018427387904) : ∀ (t : Tm) (m : Nat), m ≤ 100 → t.size < n → AFn Tryz.prog 74 [.agg (teC t), .one (.sc (.int .i64 (m : Nat)))] (.one (.sc (.bool (t.shape 13 m)))) := by
  induction n with
  | zero => intro t m _ h; omega
  | succ n ih =>
    intro t m hm h
    cases m with
    | zero =>
      have hd : decide (((0 : Nat) : Int) < 1) = true := rfl
      refine fn_in ?_; refine acl_in Tryz.func74 rfl isfn_74 (Nat.le_of_ble_eq_true rfl) (fun R hR => ?_); rw [Tryz.results74] at hR; refine wg_run ?_; (simp only [Tryz.f74, go_sem, hd])
      repeat' (first | (first | (simp only [go_sem, hd]) | (((first | refine sp1 ?_ ?_ | refine sp2 ?_ ?_ | refine sp3 ?_ ?_ | refine sp4 ?_ ?_ | refine sp5 ?_ ?_ | refine sp6 ?_ ?_ | refine sp7 ?_ ?_) <;> intro hb) <;> (simp only [go_sem, hb, hd])) | ((first | refine wm_done ?_ | refine wt_done ?_ | refine wg_run ?_ | refine fk ?_ ?_) <;> (simp only [go_sem, hd]))) | ((first | refine mx 6 [] follows ?_ | refine mx 5 [] follows ?_ | refine mx 4 [] follows ?_ | refine mx 3 [] follows ?_ | refine mx 2 [] follows ?_ | refine mx 1 [] follows ?_ | refine mx 0 [] follows ?_ | fail); (simp only [go_sem, hd])))
      (refine hR _ (rat [] (hK := ⟨rfl, rfl⟩)))
    | succ m =>
      have hl := telen_lt t
      have hd : decide (((m + 1 : Nat) : Int) < 1) = false := by simp only [decide_eq_false_iff_not]; omega
      have hw : IntKind.i64.wrap (((m + 1 : Nat) : Int) - 1) = (m : Int) := by rw [IntWalk.i64_in _ (by omega)]; omega
      have hk := l2Kids t.kind
      by_cases hlen : opN t.kind = (t.kids.length : Int)
      · have hb0 : (opN t.kind == (t.kids.length : Int)) = true := by simp [hlen]
        have hkd : 1 ≤ t.kind ∧ t.kind ≤ 14 := by
          rcases opN_cases t.kind with h | h
          · exact h
          · rw [h] at hlen; omega
        cases hc13 : (t.kind == 13)
        · obtain ⟨f, hf14, ho⟩ : ∃ b : Bool, (t.kind == 14) = b ∧ (match b with | true => AFn Tryz.prog 115 [.agg (teC t)] (.one (.sc (.bool t.ownOk))) | false => AFn Tryz.prog 116 [.agg (teC t)] (.one (.sc (.bool t.ownOk)))) := by
            cases hc14 : (t.kind == 14)
            · exact ⟨false, rfl, l2Own t hkd.1 (by rw [beq_eq_false_iff_ne] at hc14; omega)⟩
            · exact ⟨true, rfl, l4Own t (by simpa using hc14)⟩
          cases hok : t.ownOk
          · rw [hok] at ho
            have he : t.shape 13 (m + 1) = false := by rw [Tm.shape_succ, Tm.nodeOk_own, hok]; simp
            rw [he]
            cases f
            all_goals
              simp only [] at ho
              refine fn_in ?_; refine acl_in Tryz.func74 rfl isfn_74 (Nat.le_of_ble_eq_true rfl) (fun R hR => ?_); rw [Tryz.results74] at hR; refine wg_run ?_; (simp only [Tryz.f74, go_sem, hd])
              repeat' (first | (first | (simp only [go_sem, hd, hb0, hc13, hf14, int_bne]) | (((first | refine sp1 ?_ ?_ | refine sp2 ?_ ?_ | refine sp3 ?_ ?_ | refine sp4 ?_ ?_ | refine sp5 ?_ ?_ | refine sp6 ?_ ?_ | refine sp7 ?_ ?_) <;> intro hb) <;> (simp only [go_sem, hb, hd, hb0, hc13, hf14, int_bne])) | ((first | refine wm_done ?_ | refine wt_done ?_ | refine wg_run ?_ | refine fk ?_ ?_) <;> (simp only [go_sem, hd, hb0, hc13, hf14, int_bne]))) | ((first | refine mx 6 [] follows ?_ | refine mx 5 [] follows ?_ | refine mx 4 [] follows ?_ | refine mx 3 [] follows ?_ | refine mx 2 [] follows ?_ | refine mx 1 [] follows ?_ | refine mx 0 [] follows ?_ | fail); (simp only [go_sem, hd, hb0, hc13, hf14, int_bne])) | (first | refine cd (hc := hk) (hK := ?_) | refine cm (hc := hk) (hK := ?_) | refine ct (hc := hk) (hK := ?_)); (simp only [go_sem]) | (first | refine cd (hc := ho) (hK := ?_) | refine cm (hc := ho) (hK := ?_) | refine ct (hc := ho) (hK := ?_)); (simp only [go_sem]))
              (refine hR _ (rat [] (hK := ⟨rfl, rfl⟩)))
          · rw [hok] at ho
            have he : t.shape 13 (m + 1) = t.kids.all (Tm.shape 13 m) := by rw [Tm.shape_succ, Tm.nodeOk_own, hok, hb0, hc13]; simp
            rw [he]
            cases f
            all_goals
              simp only [] at ho
              refine fn_in ?_; refine acl_in Tryz.func74 rfl isfn_74 (Nat.le_of_ble_eq_true rfl) (fun R hR => ?_); rw [Tryz.results74] at hR; refine wg_run ?_; (simp only [Tryz.f74, go_sem, hd])
              repeat' (first | (first | (simp only [go_sem, hd, hb0, hc13, hf14, int_bne]) | (((first | refine sp1 ?_ ?_ | refine sp2 ?_ ?_ | refine sp3 ?_ ?_ | refine sp4 ?_ ?_ | refine sp5 ?_ ?_ | refine sp6 ?_ ?_ | refine sp7 ?_ ?_) <;> intro hb) <;> (simp only [go_sem, hb, hd, hb0, hc13, hf14, int_bne])) | ((first | refine wm_done ?_ | refine wt_done ?_ | refine wg_run ?_ | refine fk ?_ ?_) <;> (simp only [go_sem, hd, hb0, hc13, hf14, int_bne]))) | ((first | refine mx 6 [] follows ?_ | refine mx 5 [] follows ?_ | refine mx 4 [] follows ?_ | refine mx 3 [] follows ?_ | refine mx 2 [] follows ?_ | refine mx 1 [] follows ?_ | refine mx 0 [] follows ?_ | fail); (simp only [go_sem, hd, hb0, hc13, hf14, int_bne])) | (first | refine cd (hc := hk) (hK := ?_) | refine cm (hc := hk) (hK := ?_) | refine ct (hc := hk) (hK := ?_)); (simp only [go_sem]) | (first | refine cd (hc := ho) (hK := ?_) | refine cm (hc := ho) (hK := ?_) | refine ct (hc := ho) (hK := ?_)); (simp only [go_sem]))
              refine wd_for [1, 2, 5] (fun k => [.one (.sc (.int .i64 ((m + 1 : Nat) : Int))), .one (.ptr 9 0 0 0), .one (.sc (.int .i64 (k : Nat)))]) (fun k => [⟨9, 28, .mut, [teC t]⟩])
                (fun k => k ≤ t.kids.length ∧ (t.kids.drop k).all (Tm.shape 13 m) = t.kids.all (Tm.shape 13 m)) (fun k => t.kids.length - k) 0 ⟨Nat.zero_le _, rfl⟩ (hat [0] (hI := ⟨rfl, rfl⟩)) ?_
              rintro k ⟨hk0, hs⟩ G hG
              refine wg_run ?_
              (simp only [go_sem])
              ((first | refine sp1 ?_ ?_ | refine sp2 ?_ ?_ | refine sp3 ?_ ?_ | refine sp4 ?_ ?_ | refine sp5 ?_ ?_ | refine sp6 ?_ ?_ | refine sp7 ?_ ?_) <;> intro hb) <;> (simp only [go_sem, hb, hw])
              · have hk1 : k < t.kids.length := by have := of_decide_eq_true hb; omega
                have hw1 := wrap_succ hk1 (by omega)
                rw [tedrop_kid hk1, List.all_cons] at hs
                have hc := ih (by omega) (teKid t.kids k) m (by omega) (by have := teKid_lt hk1; omega)
                repeat' (first | (first | (simp only [go_sem, hw1, hw, hb]) | (((first | refine sp1 ?_ ?_ | refine sp2 ?_ ?_ | refine sp3 ?_ ?_ | refine sp4 ?_ ?_ | refine sp5 ?_ ?_ | refine sp6 ?_ ?_ | refine sp7 ?_ ?_) <;> intro hb) <;> (simp only [go_sem, hb, hw1, hw, hb])) | ((first | refine wm_done ?_ | refine wt_done ?_ | refine wg_run ?_ | refine fk ?_ ?_) <;> (simp only [go_sem, hw1, hw, hb]))) | (first | refine cd (hc := hc) (hK := ?_) | refine cm (hc := hc) (hK := ?_) | refine ct (hc := hc) (hK := ?_)); (simp only [go_sem]))
                · exact hG (k + 1) _ _ ⟨by omega, by simpa [hb] using hs⟩ (by omega) (hat [0] (hI := ⟨rfl, rfl⟩))
                · (refine hR _ (rat [] (hK := ⟨?_, rfl⟩)))
                  simpa [hb] using hs
              · have hk1 : ¬ k < t.kids.length := by have := of_decide_eq_false hb; omega
                rw [List.drop_eq_nil_of_le (by omega)] at hs
                (refine hR _ (rat [] (hK := ⟨?_, rfl⟩)))
                simpa using hs
        · have he : t.shape 13 (m + 1) = false := by rw [Tm.shape_succ, hc13]; simp
          rw [he]
          refine fn_in ?_; refine acl_in Tryz.func74 rfl isfn_74 (Nat.le_of_ble_eq_true rfl) (fun R hR => ?_); rw [Tryz.results74] at hR; refine wg_run ?_; (simp only [Tryz.f74, go_sem, hd])
          repeat' (first | (first | (simp only [go_sem, hd, hb0, hc13, int_bne]) | (((first | refine sp1 ?_ ?_ | refine sp2 ?_ ?_ | refine sp3 ?_ ?_ | refine sp4 ?_ ?_ | refine sp5 ?_ ?_ | refine sp6 ?_ ?_ | refine sp7 ?_ ?_) <;> intro hb) <;> (simp only [go_sem, hb, hd, hb0, hc13, int_bne])) | ((first | refine wm_done ?_ | refine wt_done ?_ | refine wg_run ?_ | refine fk ?_ ?_) <;> (simp only [go_sem, hd, hb0, hc13, int_bne]))) | ((first | refine mx 6 [] follows ?_ | refine mx 5 [] follows ?_ | refine mx 4 [] follows ?_ | refine mx 3 [] follows ?_ | refine mx 2 [] follows ?_ | refine mx 1 [] follows ?_ | refine mx 0 [] follows ?_ | fail); (simp only [go_sem, hd, hb0, hc13, int_bne])) | (first | refine cd (hc := hk) (hK := ?_) | refine cm (hc := hk) (hK := ?_) | refine ct (hc := hk) (hK := ?_)); (simp only [go_sem]))
          (refine hR _ (rat [] (hK := ⟨rfl, rfl⟩)))
      · have hb0 : (opN t.kind == (t.kids.length : Int)) = false := by simp [hlen]
        have he : t.shape 13 (m + 1) = false := by rw [Tm.shape_succ, Tm.nodeOk_own, hb0]; simp
        rw [he]
        refine fn_in ?_; refine acl_in Tryz.func74 rfl isfn_74 (Nat.le_of_ble_eq_true rfl) (fun R hR => ?_); rw [Tryz.results74] at hR; refine wg_run ?_; (simp only [Tryz.f74, go_sem, hd])
        repeat' (first | (first | (simp only [go_sem, hd, hb0, int_bne]) | (((first | refine sp1 ?_ ?_ | refine sp2 ?_ ?_ | refine sp3 ?_ ?_ | refine sp4 ?_ ?_ | refine sp5 ?_ ?_ | refine sp6 ?_ ?_ | refine sp7 ?_ ?_) <;> intro hb) <;> (simp only [go_sem, hb, hd, hb0, int_bne])) | ((first | refine wm_done ?_ | refine wt_done ?_ | refine wg_run ?_ | refine fk ?_ ?_) <;> (simp only [go_sem, hd, hb0, int_bne]))) | ((first | refine mx 6 [] follows ?_ | refine mx 5 [] follows ?_ | refine mx 4 [] follows ?_ | refine mx 3 [] follows ?_ | refine mx 2 [] follows ?_ | refine mx 1 [] follows ?_ | refine mx 0 [] follows ?_ | fail); (simp only [go_sem, hd, hb0, int_bne])) | (first | refine cd (hc := hk) (hK := ?_) | refine cm (hc := hk) (hK := ?_) | refine ct (hc := hk) (hK := ?_)); (simp only [go_sem]))
        (refine hR _ (rat [] (hK := ⟨rfl, rfl⟩)))
theorem sTermV (t : Tm) (h : t.size < 4611686018427387904) : AFn Tryz.prog 195 [.agg (teC t)] (.one (.sc (.bool t.termV))) := by
  have h1 := l2Shape _ (Nat.le_refl _) t 12 (by omega) h
  unfold Tm.termV
  cases hs : t.shape 14 12
  · rw [hs] at h1
    refine fn_in ?_; refine acl_in Tryz.func195 rfl isfn_195 (Nat.le_of_ble_eq_true rfl) (fun R hR => ?_); rw [Tryz.results195] at hR; refine wg_run ?_; (simp only [Tryz.f195, go_sem])
    repeat' (first | (first | (((first | refine sp1 ?_ ?_ | refine sp2 ?_ ?_ | refine sp3 ?_ ?_ | refine sp4 ?_ ?_ | refine sp5 ?_ ?_ | refine sp6 ?_ ?_ | refine sp7 ?_ ?_) <;> intro hb) <;> (simp only [go_sem, hb])) | ((first | refine wm_done ?_ | refine wt_done ?_ | refine wg_run ?_ | refine fk ?_ ?_) <;> (simp only [go_sem]))) | (first | refine cd (hc := h1) (hK := ?_) | refine cm (hc := h1) (hK := ?_) | refine ct (hc := h1) (hK := ?_)); (simp only [go_sem]))
    (refine hR _ (rat [] (hK := ⟨rfl, rfl⟩)))
  · rw [hs] at h1
    have h2 := l2Count _ (Nat.le_refl _) t 14 12 (by omega) h hs
    refine fn_in ?_; refine acl_in Tryz.func195 rfl isfn_195 (Nat.le_of_ble_eq_true rfl) (fun R hR => ?_); rw [Tryz.results195] at hR; refine wg_run ?_; (simp only [Tryz.f195, go_sem])
    repeat' (first | (first | (((first | refine sp1 ?_ ?_ | refine sp2 ?_ ?_ | refine sp3 ?_ ?_ | refine sp4 ?_ ?_ | refine sp5 ?_ ?_ | refine sp6 ?_ ?_ | refine sp7 ?_ ?_) <;> intro hb) <;> (simp only [go_sem, hb])) | ((first | refine wm_done ?_ | refine wt_done ?_ | refine wg_run ?_ | refine fk ?_ ?_) <;> (simp only [go_sem]))) | (first | refine cd (hc := h1) (hK := ?_) | refine cm (hc := h1) (hK := ?_) | refine ct (hc := h1) (hK := ?_)); (simp only [go_sem]) | (first | refine cd (hc := h2) (hK := ?_) | refine cm (hc := h2) (hK := ?_) | refine ct (hc := h2) (hK := ?_)); (simp only [go_sem]))
    (refine hR _ (rat [] (hK := ⟨?_, rfl⟩)))
    rw [Bool.true_and]
    have : decide ((t.nodes : Int) ≤ 30) = decide (t.nodes ≤ 30) := by rw [Bool.eq_iff_iff]; simp; omega
    rw [this]
theorem sCastV (t : Tm) (h : t.size < 4611686018427387904) : AFn Tryz.prog 35 [.agg (teC t)] (.one (.sc (.bool t.castV))) := by
  have h1 := l4Shape _ (Nat.le_refl _) t 40 (by omega) h
  unfold Tm.castV
  cases hs : t.shape 13 40
  · rw [hs] at h1
    refine fn_in ?_; refine acl_in Tryz.func35 rfl isfn_35 (Nat.le_of_ble_eq_true rfl) (fun R hR => ?_); rw [Tryz.results35] at hR; refine wg_run ?_; (simp only [Tryz.f35, go_sem])
    repeat' (first | (first | (((first | refine sp1 ?_ ?_ | refine sp2 ?_ ?_ | refine sp3 ?_ ?_ | refine sp4 ?_ ?_ | refine sp5 ?_ ?_ | refine sp6 ?_ ?_ | refine sp7 ?_ ?_) <;> intro hb) <;> (simp only [go_sem, hb])) | ((first | refine wm_done ?_ | refine wt_done ?_ | refine wg_run ?_ | refine fk ?_ ?_) <;> (simp only [go_sem]))) | (first | refine cd (hc := h1) (hK := ?_) | refine cm (hc := h1) (hK := ?_) | refine ct (hc := h1) (hK := ?_)); (simp only [go_sem]))
    (refine hR _ (rat [] (hK := ⟨rfl, rfl⟩)))
  · rw [hs] at h1
    have h2 := l2Count _ (Nat.le_refl _) t 13 40 (by omega) h hs
    refine fn_in ?_; refine acl_in Tryz.func35 rfl isfn_35 (Nat.le_of_ble_eq_true rfl) (fun R hR => ?_); rw [Tryz.results35] at hR; refine wg_run ?_; (simp only [Tryz.f35, go_sem])
    repeat' (first | (first | (((first | refine sp1 ?_ ?_ | refine sp2 ?_ ?_ | refine sp3 ?_ ?_ | refine sp4 ?_ ?_ | refine sp5 ?_ ?_ | refine sp6 ?_ ?_ | refine sp7 ?_ ?_) <;> intro hb) <;> (simp only [go_sem, hb])) | ((first | refine wm_done ?_ | refine wt_done ?_ | refine wg_run ?_ | refine fk ?_ ?_) <;> (simp only [go_sem]))) | (first | refine cd (hc := h1) (hK := ?_) | refine cm (hc := h1) (hK := ?_) | refine ct (hc := h1) (hK := ?_)); (simp only [go_sem]) | (first | refine cd (hc := h2) (hK := ?_) | refine cm (hc := h2) (hK := ?_) | refine ct (hc := h2) (hK := ?_)); (simp only [go_sem]))
    (refine hR _ (rat [] (hK := ⟨?_, rfl⟩)))
    rw [Bool.true_and]
    have : decide ((t.nodes : Int) ≤ 200) = decide (t.nodes ≤ 200) := by rw [Bool.eq_iff_iff]; simp; omega
    rw [this]
end Go.Proofs.YtnaebafafhamjaaGreat
