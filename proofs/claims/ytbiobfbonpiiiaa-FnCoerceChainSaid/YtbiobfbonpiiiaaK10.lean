/- Texts of the proof, one behind another. -/
import Derived.Test.YtbiobfbonpiiiaaRows
import Derived.ProofKit
import Derived.OpenShut
import Derived.Test.YtbiobfbonpiiiaaK8
import Derived.Test.YtbiobfbonpiiiaaK9
set_option linter.unusedSimpArgs false
set_option linter.unusedVariables false
/- The reference's draws of coercions, on shadows. -/
namespace Go.Proofs.Ytbiobfbonpiiiaa
open Go.RowKit Go.Proofs.Sh Go.Proofs.Grad
set_option maxRecDepth 100000
set_option maxHeartbeats 8000000
/-- a draw of a coercion of a form, and of a type -/
def DrawsK (bs : List Int) (x : T) (p c m : Nat) (r : AV) (H' : List Blk) : Prop := ∃ (k : K) (u : T) (p' : Nat), r = .tup [.agg (coC k.co), .agg (tyC u.ty)] ∧ k.wf = true ∧ u.depth ≤ 4 ∧ k.typed x u = true ∧ k.size ≤ m ∧ p' ≤ p + c ∧ H' = [(⟨2, 88, .mut, [[.sl (byR bs), .sc (.int .i64 ((p' : Nat) : Int))]]⟩ : Blk)]
theorem l6Draw (bs : List Int) (hB : Bs bs) (x : T) (hx : x.depth ≤ 4) (p : Nat) (hp : p < 900000000) : ACl Try.prog 61 [.one (.ptr 2 0 0 0), .agg (tyC x.ty)] [(⟨2, 88, .mut, [[.sl (byR bs), .sc (.int .i64 ((p : Nat) : Int))]]⟩ : Blk)] (DrawsK bs x p 2000 200) := by
  have hxs := tys 4 x hx
  have hn := l6NearC bs hB 1000 x (by omega) hx p (by omega)
  refine acl_in Try.func61 rfl isfn_61 (Nat.le_of_ble_eq_true rfl) (fun R hR => ?_); rw [Try.results61] at hR; refine wg_run ?_; (simp only [Try.f61, go_sem])
  ((first | refine wd_cl [0] (by (simp only [go_sem]); first | done | rfl) (hn) ?_ | refine wm_cl [0] (by (simp only [go_sem]); first | done | rfl) (hn) (by (simp only [go_sem]); first | done | rfl) (by (simp only [go_sem]); first | done | rfl) ?_ | refine wt_cl [0] (by (simp only [go_sem]); first | done | rfl) (hn) (by (simp only [go_sem]); first | done | rfl) (by (simp only [go_sem]); first | done | rfl) ?_); rintro _ _ ⟨y, p1, rfl, ⟨hy, hxy⟩, hp1, rfl⟩; (simp only [go_sem]))
  have hys := tys 4 y hy
  have hk := pick bs hB p1 (by omega) 4 (by omega) (by omega)
  repeat' (first | (first | ((first | refine wd_split _ (fun hb => ?_) (fun hb => ?_) | refine wd_nwant _ (fun hb => ?_) (fun hb => ?_) | refine wm_nwant _ (fun hb => ?_) (fun hb => ?_) | refine wd_want _ (fun hb => ?_) (fun hb => ?_) | refine wm_want _ (fun hb => ?_) (fun hb => ?_) | refine wt_nwant _ (fun hb => ?_) (fun hb => ?_) | refine wt_want _ (fun hb => ?_) (fun hb => ?_)) <;> (simp only [go_sem, hb])) | (refine wm_done ?_; (simp only [go_sem])) | (refine wt_done ?_; (simp only [go_sem])) | (refine wg_run ?_; (simp only [go_sem])) | (refine wt_fork (by (simp only [go_sem]); first | done | rfl) ?_ ?_ <;> (simp only [go_sem]))) | (first | (refine wd_tree (.op 0 false (.op 1 false (.op 2 false (.fork 3 false (.op 4 false (.fork 5 true (.op 6 false (.op 7 true .nil)) (.op 6 false (.op 5 true (.op 7 true .nil))))) (.op 6 false (.op 3 false (.op 4 false (.op 5 true (.op 7 true .nil))))))))) [0] follows (by decide +kernel) (by (simp only [go_sem]); first | done | rfl) ?_; (simp only [go_sem])) | (refine wd_tree (.op 0 false (.op 1 false (.op 2 false (.op 3 false (.fork 4 false (.fork 5 true (.op 6 false (.op 7 false (.op 8 false (.op 9 false (.op 10 true (.op 11 false .nil)))))) (.op 9 false (.op 5 true (.op 6 false (.op 7 false (.op 8 false (.op 10 true (.op 11 false .nil)))))))) (.op 9 false (.op 4 false (.op 5 true (.op 6 false (.op 7 false (.op 8 false (.op 10 true (.op 11 false .nil))))))))))))) [0] follows (by decide +kernel) (by (simp only [go_sem]); first | done | rfl) ?_; (simp only [go_sem])) | (refine wd_tree (.op 0 false (.op 1 false (.op 2 false (.op 3 true .nil)))) [0] follows (by decide +kernel) (by (simp only [go_sem]); first | done | rfl) ?_; (simp only [go_sem])) | fail) | ((first | refine wd_cl [0] (by (simp only [go_sem]); first | done | rfl) (hk) ?_ | refine wm_cl [0] (by (simp only [go_sem]); first | done | rfl) (hk) (by (simp only [go_sem]); first | done | rfl) (by (simp only [go_sem]); first | done | rfl) ?_ | refine wt_cl [0] (by (simp only [go_sem]); first | done | rfl) (hk) (by (simp only [go_sem]); first | done | rfl) (by (simp only [go_sem]); first | done | rfl) ?_); rintro _ _ ⟨z, rfl, hz, hz1, rfl⟩; (simp only [go_sem])))
  all_goals
    have hw : IntKind.i64.wrap (1 + z) = 1 + z := IntWalk.i64_in _ (by omega)
    have hl : lab (1 + z) = true := by simp [lab]; omega
    have hcs := sCast _ x y (1 + z) (Nat.lt_succ_self _) hxy (by omega)
    have hw1 := T.cast_wf x y (1 + z) hl
    have hw2 := T.cast_size x y (1 + z)
    have hw3 := T.cast_typed _ x y (1 + z) (Nat.lt_succ_self _) hxy
    generalize T.cast x y (1 + z) = k0 at *
    (simp only [go_sem, hw])
    repeat' (first | (first | (simp only [go_sem, hw]) | ((first | refine wd_split _ (fun hb => ?_) (fun hb => ?_) | refine wd_nwant _ (fun hb => ?_) (fun hb => ?_) | refine wm_nwant _ (fun hb => ?_) (fun hb => ?_) | refine wd_want _ (fun hb => ?_) (fun hb => ?_) | refine wm_want _ (fun hb => ?_) (fun hb => ?_) | refine wt_nwant _ (fun hb => ?_) (fun hb => ?_) | refine wt_want _ (fun hb => ?_) (fun hb => ?_)) <;> (simp only [go_sem, hb, hw])) | (refine wm_done ?_; (simp only [go_sem, hw])) | (refine wt_done ?_; (simp only [go_sem, hw])) | (refine wg_run ?_; (simp only [go_sem, hw])) | (refine wt_fork (by (simp only [go_sem]); first | done | rfl) ?_ ?_ <;> (simp only [go_sem, hw]))) | (first | refine wd_fn (by (simp only [go_sem]); first | done | rfl) (hcs) ?_ | refine wm_fn (by (simp only [go_sem]); first | done | rfl) (hcs) (by (simp only [go_sem]); first | done | rfl) (by (simp only [go_sem]); first | done | rfl) ?_ | refine wt_fn (by (simp only [go_sem]); first | done | rfl) (hcs) (by (simp only [go_sem]); first | done | rfl) (by (simp only [go_sem]); first | done | rfl) ?_); (simp only [go_sem]))
  all_goals
    have hk2 := pick bs hB (p1 + 1) (by omega) 3 (by omega) (by omega)
    ((first | refine wd_cl [0] (by (simp only [go_sem]); first | done | rfl) (hk2) ?_ | refine wm_cl [0] (by (simp only [go_sem]); first | done | rfl) (hk2) (by (simp only [go_sem]); first | done | rfl) (by (simp only [go_sem]); first | done | rfl) ?_ | refine wt_cl [0] (by (simp only [go_sem]); first | done | rfl) (hk2) (by (simp only [go_sem]); first | done | rfl) (by (simp only [go_sem]); first | done | rfl) ?_); rintro _ _ ⟨i0, rfl, hi0, hi1, rfl⟩; (simp only [go_sem]))
  all_goals
    obtain ⟨i0, rfl⟩ := Int.eq_ofNat_of_zero_le hi0
    refine wd_for [0, 4, 5, 6, 7, 8] (fun (s : K × T × Nat × Nat) => [.one (.ptr 2 0 0 0), .one (.ptr 4 1 0 0), .one (.ptr 2 2 0 0), .one (.ptr 2 3 0 0), .one (.ptr 4 4 0 0), .one (.sc (.int .i64 (s.2.2.2 : Nat)))])
      (fun s => [(⟨2, 88, .mut, [[.sl (byR bs), .sc (.int .i64 ((s.2.2.1 : Nat) : Int))]]⟩ : Blk), ⟨4, 30, .mut, [[.sc (.int .i64 0), .sc (.int .i64 0), .sc (.int .i64 0), .sc (.slice none 0 0)]]⟩, ⟨2, 25, .mut, [[.sc (.int .i64 0), .sc (.slice none 0 0)]]⟩, ⟨2, 25, .mut, [tyC s.2.1.ty]⟩, ⟨4, 30, .mut, [coC s.1.co]⟩])
      (fun s => s.1.wf = true ∧ s.2.1.depth ≤ 4 ∧ s.1.typed x s.2.1 = true ∧ s.1.size + 60 * s.2.2.2 ≤ 180 ∧ s.2.2.1 + 600 * s.2.2.2 ≤ p + 2000 ∧ s.2.2.2 ≤ 2) (fun s => s.2.2.2) (k0, y, p1 + 1 + 1, i0) ⟨hw1, hy, hw3, by simp only []; omega, by simp only []; omega, by simp only []; omega⟩ (head_at [2, 3, 4, 5] (by (simp only [go_sem]); first | done | rfl) (by (simp only [go_sem]); first | done | rfl) ⟨rfl, rfl⟩) ?_
    clear hw3 hw2 hw1 hcs hl hw hk2 hi0 hi1 hz hz1 hk hn hxy
    rintro ⟨k, u, q, i⟩ ⟨h1, h2, h6, h3, h4, h5⟩ G hG
    simp only [] at h1 h2 h3 h4 h5 h6
    refine wg_run ?_
    (simp only [go_sem])
    (first | refine wd_split _ (fun hb => ?_) (fun hb => ?_) | refine wd_nwant _ (fun hb => ?_) (fun hb => ?_) | refine wm_nwant _ (fun hb => ?_) (fun hb => ?_) | refine wd_want _ (fun hb => ?_) (fun hb => ?_) | refine wm_want _ (fun hb => ?_) (fun hb => ?_) | refine wt_nwant _ (fun hb => ?_) (fun hb => ?_) | refine wt_want _ (fun hb => ?_) (fun hb => ?_)) <;> (simp only [go_sem, hb])
    · have hi : 0 < i := by have := of_decide_eq_true hb; omega
      have hus := tys 4 u h2
      have hn := l6NearC bs hB 1000 u (by omega) h2 q (by omega)
      ((first | refine wd_cl [0] (by (simp only [go_sem]); first | done | rfl) (hn) ?_ | refine wm_cl [0] (by (simp only [go_sem]); first | done | rfl) (hn) (by (simp only [go_sem]); first | done | rfl) (by (simp only [go_sem]); first | done | rfl) ?_ | refine wt_cl [0] (by (simp only [go_sem]); first | done | rfl) (hn) (by (simp only [go_sem]); first | done | rfl) (by (simp only [go_sem]); first | done | rfl) ?_); rintro _ _ ⟨v, q1, rfl, ⟨hv, huv⟩, hq1, rfl⟩; (simp only [go_sem]))
      have hvs := tys 4 v hv
      have hk := pick bs hB q1 (by omega) 3 (by omega) (by omega)
      have hk2 := pick bs hB (q1 + 1) (by omega) 2 (by omega) (by omega)
      ((first | refine wd_cl [0] (by (simp only [go_sem]); first | done | rfl) (hk) ?_ | refine wm_cl [0] (by (simp only [go_sem]); first | done | rfl) (hk) (by (simp only [go_sem]); first | done | rfl) (by (simp only [go_sem]); first | done | rfl) ?_ | refine wt_cl [0] (by (simp only [go_sem]); first | done | rfl) (hk) (by (simp only [go_sem]); first | done | rfl) (by (simp only [go_sem]); first | done | rfl) ?_); rintro _ _ ⟨z2, rfl, hz, hz1, rfl⟩; (simp only [go_sem]))
      have hw : IntKind.i64.wrap (5 + z2) = 5 + z2 := IntWalk.i64_in _ (by omega)
      have hw' : IntKind.i64.wrap (0 - (5 + z2)) = -(5 + z2) := by rw [IntWalk.i64_in _ (by omega)]; omega
      (simp only [go_sem, hw])
      ((first | refine wd_cl [0] (by (simp only [go_sem]); first | done | rfl) (hk2) ?_ | refine wm_cl [0] (by (simp only [go_sem]); first | done | rfl) (hk2) (by (simp only [go_sem]); first | done | rfl) (by (simp only [go_sem]); first | done | rfl) ?_ | refine wt_cl [0] (by (simp only [go_sem]); first | done | rfl) (hk2) (by (simp only [go_sem]); first | done | rfl) (by (simp only [go_sem]); first | done | rfl) ?_); rintro _ _ ⟨z3, rfl, hz3, hz31, rfl⟩; (simp only [go_sem]))
      have hwi : IntKind.i64.wrap ((i : Int) - 1) = ((i - 1 : Nat) : Int) := by rw [IntWalk.i64_in _ (by omega)]; omega
      have hl1 : lab (5 + z2) = true := by simp [lab]; omega
      have hl2 := lab_neg hl1
      have c1 := sCast _ u v (5 + z2) (Nat.lt_succ_self _) huv (by omega)
      have c2 := sCast _ u v (-(5 + z2)) (Nat.lt_succ_self _) huv (by omega)
      have d1 := T.cast_wf u v _ hl1; have d2 := T.cast_wf u v _ hl2
      have j1 := T.cast_typed _ u v (5 + z2) (Nat.lt_succ_self _) huv; have j2 := T.cast_typed _ u v (-(5 + z2)) (Nat.lt_succ_self _) huv
      have e1 := T.cast_size u v (5 + z2); have e2 := T.cast_size u v (-(5 + z2))
      generalize T.cast u v (5 + z2) = m1 at *
      generalize T.cast u v (-(5 + z2)) = m2 at *
      have g1 := l6Compose 1000 (by omega) k m1 h1 d1 (by omega)
      have g2 := l6Compose 1000 (by omega) k m2 h1 d2 (by omega)
      have f1 := K.comp_wf k m1; have f2 := K.comp_wf k m2
      have s1 := K.comp_size k m1; have s2 := K.comp_size k m2
      repeat' (first | (first | (simp only [go_sem, hw', hwi]) | ((first | refine wd_split _ (fun hb => ?_) (fun hb => ?_) | refine wd_nwant _ (fun hb => ?_) (fun hb => ?_) | refine wm_nwant _ (fun hb => ?_) (fun hb => ?_) | refine wd_want _ (fun hb => ?_) (fun hb => ?_) | refine wm_want _ (fun hb => ?_) (fun hb => ?_) | refine wt_nwant _ (fun hb => ?_) (fun hb => ?_) | refine wt_want _ (fun hb => ?_) (fun hb => ?_)) <;> (simp only [go_sem, hb, hw', hwi])) | (refine wm_done ?_; (simp only [go_sem, hw', hwi])) | (refine wt_done ?_; (simp only [go_sem, hw', hwi])) | (refine wg_run ?_; (simp only [go_sem, hw', hwi])) | (refine wt_fork (by (simp only [go_sem]); first | done | rfl) ?_ ?_ <;> (simp only [go_sem, hw', hwi]))) | (first | (refine wd_tree (.op 0 false (.op 1 false (.op 2 false (.fork 3 false (.op 4 false (.fork 5 true (.op 6 false (.op 7 true .nil)) (.op 6 false (.op 5 true (.op 7 true .nil))))) (.op 6 false (.op 3 false (.op 4 false (.op 5 true (.op 7 true .nil))))))))) [] follows (by decide +kernel) (by (simp only [go_sem]); first | done | rfl) ?_; (simp only [go_sem])) | (refine wd_tree (.op 0 false (.op 1 false (.op 2 false (.op 3 false (.fork 4 false (.fork 5 true (.op 6 false (.op 7 false (.op 8 false (.op 9 false (.op 10 true (.op 11 false .nil)))))) (.op 9 false (.op 5 true (.op 6 false (.op 7 false (.op 8 false (.op 10 true (.op 11 false .nil)))))))) (.op 9 false (.op 4 false (.op 5 true (.op 6 false (.op 7 false (.op 8 false (.op 10 true (.op 11 false .nil))))))))))))) [] follows (by decide +kernel) (by (simp only [go_sem]); first | done | rfl) ?_; (simp only [go_sem])) | (refine wd_tree (.op 0 false (.op 1 false (.op 2 false (.op 3 true .nil)))) [] follows (by decide +kernel) (by (simp only [go_sem]); first | done | rfl) ?_; (simp only [go_sem])) | fail) | (first | refine wd_fn (by (simp only [go_sem]); first | done | rfl) (c1) ?_ | refine wm_fn (by (simp only [go_sem]); first | done | rfl) (c1) (by (simp only [go_sem]); first | done | rfl) (by (simp only [go_sem]); first | done | rfl) ?_ | refine wt_fn (by (simp only [go_sem]); first | done | rfl) (c1) (by (simp only [go_sem]); first | done | rfl) (by (simp only [go_sem]); first | done | rfl) ?_); (simp only [go_sem]) | (first | refine wd_fn (by (simp only [go_sem]); first | done | rfl) (c2) ?_ | refine wm_fn (by (simp only [go_sem]); first | done | rfl) (c2) (by (simp only [go_sem]); first | done | rfl) (by (simp only [go_sem]); first | done | rfl) ?_ | refine wt_fn (by (simp only [go_sem]); first | done | rfl) (c2) (by (simp only [go_sem]); first | done | rfl) (by (simp only [go_sem]); first | done | rfl) ?_); (simp only [go_sem]) | ((first | refine wd_cl [] (by (simp only [go_sem]); first | done | rfl) (g1) ?_ | refine wm_cl [] (by (simp only [go_sem]); first | done | rfl) (g1) (by (simp only [go_sem]); first | done | rfl) (by (simp only [go_sem]); first | done | rfl) ?_ | refine wt_cl [] (by (simp only [go_sem]); first | done | rfl) (g1) (by (simp only [go_sem]); first | done | rfl) (by (simp only [go_sem]); first | done | rfl) ?_); rintro _ _ ⟨c, rfl, hkk, rfl⟩ <;> (simp only [go_sem])) | ((first | refine wd_cl [] (by (simp only [go_sem]); first | done | rfl) (g2) ?_ | refine wm_cl [] (by (simp only [go_sem]); first | done | rfl) (g2) (by (simp only [go_sem]); first | done | rfl) (by (simp only [go_sem]); first | done | rfl) ?_ | refine wt_cl [] (by (simp only [go_sem]); first | done | rfl) (g2) (by (simp only [go_sem]); first | done | rfl) (by (simp only [go_sem]); first | done | rfl) ?_); rintro _ _ ⟨c, rfl, hkk, rfl⟩ <;> (simp only [go_sem])))
      all_goals first
        | exact hG (k, u, q1 + 1 + 1, i - 1) _ _ ⟨h1, h2, h6, by simp only []; omega, by simp only []; omega, by simp only []; omega⟩ (by simp only []; omega) (head_at [1, 2, 3, 4] (by (simp only [go_sem]); first | done | rfl) (by (simp only [go_sem]); first | done | rfl) ⟨rfl, rfl⟩)
        | (obtain ⟨kk, hke⟩ := Option.isSome_iff_exists.1 hb
           have hce := hkk kk hke
           subst hce
           first
             | (have w1 := f1 kk hke h1 d1; have w2 := s1 kk hke; have w3 := K.typed_comp _ k m1 kk x u v (Nat.lt_succ_self _) hke h1 d1 h6 j1
                exact hG (kk, v, q1 + 1 + 1, i - 1) _ _ ⟨w1, hv, w3, by simp only []; omega, by simp only []; omega, by simp only []; omega⟩ (by simp only []; omega) (head_at [1, 2, 3, 4] (by (simp only [go_sem]); first | done | rfl) (by (simp only [go_sem]); first | done | rfl) ⟨rfl, rfl⟩))
             | (have w1 := f2 kk hke h1 d2; have w2 := s2 kk hke; have w3 := K.typed_comp _ k m2 kk x u v (Nat.lt_succ_self _) hke h1 d2 h6 j2
                exact hG (kk, v, q1 + 1 + 1, i - 1) _ _ ⟨w1, hv, w3, by simp only []; omega, by simp only []; omega, by simp only []; omega⟩ (by simp only []; omega) (head_at [1, 2, 3, 4] (by (simp only [go_sem]); first | done | rfl) (by (simp only [go_sem]); first | done | rfl) ⟨rfl, rfl⟩)))
        | skip
    · repeat' (first | (first | ((first | refine wd_split _ (fun hb => ?_) (fun hb => ?_) | refine wd_nwant _ (fun hb => ?_) (fun hb => ?_) | refine wm_nwant _ (fun hb => ?_) (fun hb => ?_) | refine wd_want _ (fun hb => ?_) (fun hb => ?_) | refine wm_want _ (fun hb => ?_) (fun hb => ?_) | refine wt_nwant _ (fun hb => ?_) (fun hb => ?_) | refine wt_want _ (fun hb => ?_) (fun hb => ?_)) <;> (simp only [go_sem, hb])) | (refine wm_done ?_; (simp only [go_sem])) | (refine wt_done ?_; (simp only [go_sem])) | (refine wg_run ?_; (simp only [go_sem])) | (refine wt_fork (by (simp only [go_sem]); first | done | rfl) ?_ ?_ <;> (simp only [go_sem]))) | (first | (refine wd_tree (.op 0 false (.op 1 false (.op 2 false (.fork 3 false (.op 4 false (.fork 5 true (.op 6 false (.op 7 true .nil)) (.op 6 false (.op 5 true (.op 7 true .nil))))) (.op 6 false (.op 3 false (.op 4 false (.op 5 true (.op 7 true .nil))))))))) [1, 2] follows (by decide +kernel) (by (simp only [go_sem]); first | done | rfl) ?_; (simp only [go_sem])) | (refine wd_tree (.op 0 false (.op 1 false (.op 2 false (.op 3 false (.fork 4 false (.fork 5 true (.op 6 false (.op 7 false (.op 8 false (.op 9 false (.op 10 true (.op 11 false .nil)))))) (.op 9 false (.op 5 true (.op 6 false (.op 7 false (.op 8 false (.op 10 true (.op 11 false .nil)))))))) (.op 9 false (.op 4 false (.op 5 true (.op 6 false (.op 7 false (.op 8 false (.op 10 true (.op 11 false .nil))))))))))))) [1, 2] follows (by decide +kernel) (by (simp only [go_sem]); first | done | rfl) ?_; (simp only [go_sem])) | (refine wd_tree (.op 0 false (.op 1 false (.op 2 false (.op 3 true .nil)))) [1, 2] follows (by decide +kernel) (by (simp only [go_sem]); first | done | rfl) ?_; (simp only [go_sem])) | fail))
      exact hR _ (ret_at [] (by (simp only [go_sem]); first | done | rfl) (by (simp only [go_sem]); first | done | rfl) ⟨k, u, q, rfl, h1, h2, h6, by omega, by omega, rfl⟩)
end Go.Proofs.Ytbiobfbonpiiiaa
/- The reference's draws of coercions, sometimes made invalid. On shadows. -/
namespace Go.Proofs.Grad
theorem cosizes_append (l m : List Co) : Co.sizes (l ++ m) = Co.sizes l + Co.sizes m := by
  induction l with
  | nil => simp [Co.sizes]
  | cons x l ih => simp only [List.cons_append, Co.sizes, ih]; omega
theorem Co.length_le_sizes (l : List Co) : l.length ≤ Co.sizes l := by
  induction l with
  | nil => simp
  | cons x l ih => cases x; simp only [List.length_cons, Co.sizes, Co.size]; omega
end Go.Proofs.Grad
namespace Go.Proofs.Ytbiobfbonpiiiaa
open Go.RowKit Go.Proofs.Sh Go.Proofs.Grad
set_option maxRecDepth 100000
set_option maxHeartbeats 8000000
/-- a draw of some coercion, not too large -/
def DrawsC (bs : List Int) (p c n : Nat) (r : AV) (H' : List Blk) : Prop := ∃ (x : Co) (p' : Nat), r = .agg (coC x) ∧ x.size ≤ n ∧ p' ≤ p + c ∧ H' = [(⟨2, 88, .mut, [[.sl (byR bs), .sc (.int .i64 ((p' : Nat) : Int))]]⟩ : Blk)]
theorem l6Mutate (bs : List Int) (hB : Bs bs) (p : Nat) (hp : p < 999999000) (t : Co) (ht : t.size < 1000000) : ACl Try.prog 63 [.one (.ptr 2 0 0 0), .agg (coC t)] [(⟨2, 88, .mut, [[.sl (byR bs), .sc (.int .i64 ((p : Nat) : Int))]]⟩ : Blk)] (DrawsC bs p 2 (t.size + 2)) := by
  have hc := l6CopyO 1000000 (by omega) t ht
  have hk := pick bs hB p (by omega) 40 (by omega) (by omega)
  have hl : t.kids.length < 1000000 := by have := Co.length_le_sizes t.kids; cases t; simp only [Co.size, Co.kids] at *; omega
  have hn := num bs hB (p + 1) (by omega) [0, 7, 1, 4, 5] (by decide) (by decide)
  have hn2 := num bs hB (p + 1) (by omega) [0, 1, 2, 6, -1] (by decide) (by decide)
  have hn3 := num bs hB (p + 1) (by omega) [0, 100, -9223372036854775808, 3] (by decide) (by decide)
  have hcap : (t.kids.length + 1) * 48 ≤ 140737488355328 := by omega
  obtain ⟨k, g, lb, l⟩ := t
  simp only [Co.kids, Co.kind, Co.tag, Co.label] at hl hcap
  refine acl_in Try.func63 rfl isfn_63 (Nat.le_of_ble_eq_true rfl) (fun R hR => ?_); rw [Try.results63] at hR; refine wg_run ?_; (simp only [Try.f63, go_sem])
  ((first | refine wd_cl [] (by (simp only [go_sem]); first | done | rfl) (hc) ?_ | refine wm_cl [] (by (simp only [go_sem]); first | done | rfl) (hc) (by (simp only [go_sem]); first | done | rfl) (by (simp only [go_sem]); first | done | rfl) ?_ | refine wt_cl [] (by (simp only [go_sem]); first | done | rfl) (hc) (by (simp only [go_sem]); first | done | rfl) (by (simp only [go_sem]); first | done | rfl) ?_); rintro _ _ (⟨hk0, rfl, rfl⟩ | ⟨hk0, rfl, rfl⟩) <;> (simp only [go_sem]))
  · simp only [Co.kids] at hk0
    subst hk0
    ((first | refine wd_cl [0] (by (simp only [go_sem]); first | done | rfl) (hk) ?_ | refine wm_cl [0] (by (simp only [go_sem]); first | done | rfl) (hk) (by (simp only [go_sem]); first | done | rfl) (by (simp only [go_sem]); first | done | rfl) ?_ | refine wt_cl [0] (by (simp only [go_sem]); first | done | rfl) (hk) (by (simp only [go_sem]); first | done | rfl) (by (simp only [go_sem]); first | done | rfl) ?_); rintro _ _ ⟨z, rfl, hz, hz1, rfl⟩; (simp only [go_sem]))
    repeat' (first | ((first | refine wd_split _ (fun hb => ?_) (fun hb => ?_) | refine wd_nwant _ (fun hb => ?_) (fun hb => ?_) | refine wm_nwant _ (fun hb => ?_) (fun hb => ?_) | refine wd_want _ (fun hb => ?_) (fun hb => ?_) | refine wm_want _ (fun hb => ?_) (fun hb => ?_) | refine wt_nwant _ (fun hb => ?_) (fun hb => ?_) | refine wt_want _ (fun hb => ?_) (fun hb => ?_)) <;> (simp only [go_sem, hb])) | (refine wm_done ?_; (simp only [go_sem])) | (refine wt_done ?_; (simp only [go_sem])) | (refine wg_run ?_; (simp only [go_sem])) | (refine wt_fork (by (simp only [go_sem]); first | done | rfl) ?_ ?_ <;> (simp only [go_sem])))
    · ((first | refine wd_cl [0] (by (simp only [go_sem]); first | done | rfl) (hn) ?_ | refine wm_cl [0] (by (simp only [go_sem]); first | done | rfl) (hn) (by (simp only [go_sem]); first | done | rfl) (by (simp only [go_sem]); first | done | rfl) ?_ | refine wt_cl [0] (by (simp only [go_sem]); first | done | rfl) (hn) (by (simp only [go_sem]); first | done | rfl) (by (simp only [go_sem]); first | done | rfl) ?_); rintro _ _ ⟨y, rfl, hy, rfl⟩; (simp only [go_sem]))
      exact hR _ (ret_at [] (by (simp only [go_sem]); first | done | rfl) (by (simp only [go_sem]); first | done | rfl) ⟨.mk y g lb [], p + 2, rfl, by simp [Co.size, Co.sizes], by omega, rfl⟩)
    · ((first | refine wd_cl [0] (by (simp only [go_sem]); first | done | rfl) (hn2) ?_ | refine wm_cl [0] (by (simp only [go_sem]); first | done | rfl) (hn2) (by (simp only [go_sem]); first | done | rfl) (by (simp only [go_sem]); first | done | rfl) ?_ | refine wt_cl [0] (by (simp only [go_sem]); first | done | rfl) (hn2) (by (simp only [go_sem]); first | done | rfl) (by (simp only [go_sem]); first | done | rfl) ?_); rintro _ _ ⟨y, rfl, hy, rfl⟩; (simp only [go_sem]))
      exact hR _ (ret_at [] (by (simp only [go_sem]); first | done | rfl) (by (simp only [go_sem]); first | done | rfl) ⟨.mk k y lb [], p + 2, rfl, by simp [Co.size, Co.sizes], by omega, rfl⟩)
    · ((first | refine wd_cl [0] (by (simp only [go_sem]); first | done | rfl) (hn3) ?_ | refine wm_cl [0] (by (simp only [go_sem]); first | done | rfl) (hn3) (by (simp only [go_sem]); first | done | rfl) (by (simp only [go_sem]); first | done | rfl) ?_ | refine wt_cl [0] (by (simp only [go_sem]); first | done | rfl) (hn3) (by (simp only [go_sem]); first | done | rfl) (by (simp only [go_sem]); first | done | rfl) ?_); rintro _ _ ⟨y, rfl, hy, rfl⟩; (simp only [go_sem]))
      exact hR _ (ret_at [] (by (simp only [go_sem]); first | done | rfl) (by (simp only [go_sem]); first | done | rfl) ⟨.mk k g y [], p + 2, rfl, by simp [Co.size, Co.sizes], by omega, rfl⟩)
    · ((first | refine wd_mix 6 [0] follows (by decide +kernel) (by (simp only [go_sem]); first | done | rfl) ?_ | refine wd_mix 5 [0] follows (by decide +kernel) (by (simp only [go_sem]); first | done | rfl) ?_ | refine wd_mix 4 [0] follows (by decide +kernel) (by (simp only [go_sem]); first | done | rfl) ?_ | refine wd_mix 3 [0] follows (by decide +kernel) (by (simp only [go_sem]); first | done | rfl) ?_ | refine wd_mix 2 [0] follows (by decide +kernel) (by (simp only [go_sem]); first | done | rfl) ?_ | refine wd_mix 1 [0] follows (by decide +kernel) (by (simp only [go_sem]); first | done | rfl) ?_ | refine wd_mix 0 [0] follows (by decide +kernel) (by (simp only [go_sem]); first | done | rfl) ?_ | fail); (simp only [go_sem]))
      repeat' (first | (first | ((first | refine wd_split _ (fun hb => ?_) (fun hb => ?_) | refine wd_nwant _ (fun hb => ?_) (fun hb => ?_) | refine wm_nwant _ (fun hb => ?_) (fun hb => ?_) | refine wd_want _ (fun hb => ?_) (fun hb => ?_) | refine wm_want _ (fun hb => ?_) (fun hb => ?_) | refine wt_nwant _ (fun hb => ?_) (fun hb => ?_) | refine wt_want _ (fun hb => ?_) (fun hb => ?_)) <;> (simp only [go_sem, hb])) | (refine wm_done ?_; (simp only [go_sem])) | (refine wt_done ?_; (simp only [go_sem])) | (refine wg_run ?_; (simp only [go_sem])) | (refine wt_fork (by (simp only [go_sem]); first | done | rfl) ?_ ?_ <;> (simp only [go_sem]))) | (first | refine wd_fn (by (simp only [go_sem]); first | done | rfl) (l6Id _) ?_ | refine wm_fn (by (simp only [go_sem]); first | done | rfl) (l6Id _) (by (simp only [go_sem]); first | done | rfl) (by (simp only [go_sem]); first | done | rfl) ?_ | refine wt_fn (by (simp only [go_sem]); first | done | rfl) (l6Id _) (by (simp only [go_sem]); first | done | rfl) (by (simp only [go_sem]); first | done | rfl) ?_); (simp only [go_sem]))
      exact hR _ (ret_at [] (by (simp only [go_sem]); first | done | rfl) (by (simp only [go_sem]); first | done | rfl) ⟨.mk k g lb [.mk 1 2 0 []], p + 1, rfl, by simp [Co.size, Co.sizes], by omega, rfl⟩)
    · exact hR _ (ret_at [] (by (simp only [go_sem]); first | done | rfl) (by (simp only [go_sem]); first | done | rfl) ⟨.mk k g lb [], p + 1, rfl, by simp [Co.size, Co.sizes], by omega, rfl⟩)
  · simp only [Co.kids] at hk0
    ((first | refine wd_cl [0] (by (simp only [go_sem]); first | done | rfl) (hk) ?_ | refine wm_cl [0] (by (simp only [go_sem]); first | done | rfl) (hk) (by (simp only [go_sem]); first | done | rfl) (by (simp only [go_sem]); first | done | rfl) ?_ | refine wt_cl [0] (by (simp only [go_sem]); first | done | rfl) (hk) (by (simp only [go_sem]); first | done | rfl) (by (simp only [go_sem]); first | done | rfl) ?_); rintro _ _ ⟨z, rfl, hz, hz1, rfl⟩; (simp only [go_sem]))
    repeat' (first | ((first | refine wd_split _ (fun hb => ?_) (fun hb => ?_) | refine wd_nwant _ (fun hb => ?_) (fun hb => ?_) | refine wm_nwant _ (fun hb => ?_) (fun hb => ?_) | refine wd_want _ (fun hb => ?_) (fun hb => ?_) | refine wm_want _ (fun hb => ?_) (fun hb => ?_) | refine wt_nwant _ (fun hb => ?_) (fun hb => ?_) | refine wt_want _ (fun hb => ?_) (fun hb => ?_)) <;> (simp only [go_sem, hb])) | (refine wm_done ?_; (simp only [go_sem])) | (refine wt_done ?_; (simp only [go_sem])) | (refine wg_run ?_; (simp only [go_sem])) | (refine wt_fork (by (simp only [go_sem]); first | done | rfl) ?_ ?_ <;> (simp only [go_sem])))
    · ((first | refine wd_cl [0] (by (simp only [go_sem]); first | done | rfl) (hn) ?_ | refine wm_cl [0] (by (simp only [go_sem]); first | done | rfl) (hn) (by (simp only [go_sem]); first | done | rfl) (by (simp only [go_sem]); first | done | rfl) ?_ | refine wt_cl [0] (by (simp only [go_sem]); first | done | rfl) (hn) (by (simp only [go_sem]); first | done | rfl) (by (simp only [go_sem]); first | done | rfl) ?_); rintro _ _ ⟨y, rfl, hy, rfl⟩; (simp only [go_sem]))
      exact hR _ (ret_at [] (by (simp only [go_sem]); first | done | rfl) (by (simp only [go_sem]); first | done | rfl) ⟨.mk y g lb l, p + 2, rfl, by simp [Co.size, Co.sizes], by omega, rfl⟩)
    · ((first | refine wd_cl [0] (by (simp only [go_sem]); first | done | rfl) (hn2) ?_ | refine wm_cl [0] (by (simp only [go_sem]); first | done | rfl) (hn2) (by (simp only [go_sem]); first | done | rfl) (by (simp only [go_sem]); first | done | rfl) ?_ | refine wt_cl [0] (by (simp only [go_sem]); first | done | rfl) (hn2) (by (simp only [go_sem]); first | done | rfl) (by (simp only [go_sem]); first | done | rfl) ?_); rintro _ _ ⟨y, rfl, hy, rfl⟩; (simp only [go_sem]))
      exact hR _ (ret_at [] (by (simp only [go_sem]); first | done | rfl) (by (simp only [go_sem]); first | done | rfl) ⟨.mk k y lb l, p + 2, rfl, by simp [Co.size, Co.sizes], by omega, rfl⟩)
    · ((first | refine wd_cl [0] (by (simp only [go_sem]); first | done | rfl) (hn3) ?_ | refine wm_cl [0] (by (simp only [go_sem]); first | done | rfl) (hn3) (by (simp only [go_sem]); first | done | rfl) (by (simp only [go_sem]); first | done | rfl) ?_ | refine wt_cl [0] (by (simp only [go_sem]); first | done | rfl) (hn3) (by (simp only [go_sem]); first | done | rfl) (by (simp only [go_sem]); first | done | rfl) ?_); rintro _ _ ⟨y, rfl, hy, rfl⟩; (simp only [go_sem]))
      exact hR _ (ret_at [] (by (simp only [go_sem]); first | done | rfl) (by (simp only [go_sem]); first | done | rfl) ⟨.mk k g y l, p + 2, rfl, by simp [Co.size, Co.sizes], by omega, rfl⟩)
    · ((first | refine wd_mix 6 [0] follows (by decide +kernel) (by (simp only [go_sem]); first | done | rfl) ?_ | refine wd_mix 5 [0] follows (by decide +kernel) (by (simp only [go_sem]); first | done | rfl) ?_ | refine wd_mix 4 [0] follows (by decide +kernel) (by (simp only [go_sem]); first | done | rfl) ?_ | refine wd_mix 3 [0] follows (by decide +kernel) (by (simp only [go_sem]); first | done | rfl) ?_ | refine wd_mix 2 [0] follows (by decide +kernel) (by (simp only [go_sem]); first | done | rfl) ?_ | refine wd_mix 1 [0] follows (by decide +kernel) (by (simp only [go_sem]); first | done | rfl) ?_ | refine wd_mix 0 [0] follows (by decide +kernel) (by (simp only [go_sem]); first | done | rfl) ?_ | fail); (simp only [go_sem]))
      repeat' (first | (first | (simp only [go_sem, hcap]) | ((first | refine wd_split _ (fun hb => ?_) (fun hb => ?_) | refine wd_nwant _ (fun hb => ?_) (fun hb => ?_) | refine wm_nwant _ (fun hb => ?_) (fun hb => ?_) | refine wd_want _ (fun hb => ?_) (fun hb => ?_) | refine wm_want _ (fun hb => ?_) (fun hb => ?_) | refine wt_nwant _ (fun hb => ?_) (fun hb => ?_) | refine wt_want _ (fun hb => ?_) (fun hb => ?_)) <;> (simp only [go_sem, hb, hcap])) | (refine wm_done ?_; (simp only [go_sem, hcap])) | (refine wt_done ?_; (simp only [go_sem, hcap])) | (refine wg_run ?_; (simp only [go_sem, hcap])) | (refine wt_fork (by (simp only [go_sem]); first | done | rfl) ?_ ?_ <;> (simp only [go_sem, hcap]))) | (first | refine wd_fn (by (simp only [go_sem]); first | done | rfl) (l6Id _) ?_ | refine wm_fn (by (simp only [go_sem]); first | done | rfl) (l6Id _) (by (simp only [go_sem]); first | done | rfl) (by (simp only [go_sem]); first | done | rfl) ?_ | refine wt_fn (by (simp only [go_sem]); first | done | rfl) (l6Id _) (by (simp only [go_sem]); first | done | rfl) (by (simp only [go_sem]); first | done | rfl) ?_); (simp only [go_sem]))
      refine hR _ (ret_at [] (by (simp only [go_sem]); first | done | rfl) (by (simp only [go_sem]); first | done | rfl) ⟨Co.mk k g lb (l ++ [Co.mk 1 2 0 []]), p + 1, ?_, ?_, by omega, rfl⟩)
      · rw [coC_eq (Co.mk k g lb (l ++ [Co.mk 1 2 0 []]))]; simp only [Co.kind, Co.tag, Co.label, Co.kids]; rw [coR_append]; rfl
      · simp only [Co.size, cosizes_append, Co.sizes]; omega
    · exact hR _ (ret_at [] (by (simp only [go_sem]); first | done | rfl) (by (simp only [go_sem]); first | done | rfl) ⟨.mk k g lb l, p + 1, rfl, by simp [Co.size, Co.sizes], by omega, rfl⟩)
end Go.Proofs.Ytbiobfbonpiiiaa
/- The reference's draw of one coercion. On shadows. -/
namespace Go.Proofs.Ytbiobfbonpiiiaa
open Go.RowKit Go.Proofs.Sh Go.Proofs.Grad
set_option maxRecDepth 100000
set_option maxHeartbeats 8000000
/-- a draw of a coercion of a form -/
def DrawsK1 (bs : List Int) (p c m : Nat) (r : AV) (H' : List Blk) : Prop := ∃ (k : K) (p' : Nat), r = .agg (coC k.co) ∧ k.wf = true ∧ k.size ≤ m ∧ p' ≤ p + c ∧ H' = [(⟨2, 88, .mut, [[.sl (byR bs), .sc (.int .i64 ((p' : Nat) : Int))]]⟩ : Blk)]
theorem l6One (bs : List Int) (hB : Bs bs) (p : Nat) (hp : p < 800000000) : ACl Try.prog 64 [.one (.ptr 2 0 0 0)] [(⟨2, 88, .mut, [[.sl (byR bs), .sc (.int .i64 ((p : Nat) : Int))]]⟩ : Blk)] (DrawsK1 bs p 2100 200) := by
  have ht := l1Type bs hB p (by omega)
  refine acl_in Try.func64 rfl isfn_64 (Nat.le_of_ble_eq_true rfl) (fun R hR => ?_); rw [Try.results64] at hR; refine wg_run ?_; (simp only [Try.f64, go_sem])
  repeat' (first | (first | ((first | refine wd_split _ (fun hb => ?_) (fun hb => ?_) | refine wd_nwant _ (fun hb => ?_) (fun hb => ?_) | refine wm_nwant _ (fun hb => ?_) (fun hb => ?_) | refine wd_want _ (fun hb => ?_) (fun hb => ?_) | refine wm_want _ (fun hb => ?_) (fun hb => ?_) | refine wt_nwant _ (fun hb => ?_) (fun hb => ?_) | refine wt_want _ (fun hb => ?_) (fun hb => ?_)) <;> (simp only [go_sem, hb])) | (refine wm_done ?_; (simp only [go_sem])) | (refine wt_done ?_; (simp only [go_sem])) | (refine wg_run ?_; (simp only [go_sem])) | (refine wt_fork (by (simp only [go_sem]); first | done | rfl) ?_ ?_ <;> (simp only [go_sem]))) | (first | fail))
  ((first | refine wd_cl [0] (by (simp only [go_sem]); first | done | rfl) (ht) ?_ | refine wm_cl [0] (by (simp only [go_sem]); first | done | rfl) (ht) (by (simp only [go_sem]); first | done | rfl) (by (simp only [go_sem]); first | done | rfl) ?_ | refine wt_cl [0] (by (simp only [go_sem]); first | done | rfl) (ht) (by (simp only [go_sem]); first | done | rfl) (by (simp only [go_sem]); first | done | rfl) ?_); rintro _ _ ⟨x, p1, rfl, hx, hp1, rfl⟩; (simp only [go_sem]))
  repeat' (first | (first | ((first | refine wd_split _ (fun hb => ?_) (fun hb => ?_) | refine wd_nwant _ (fun hb => ?_) (fun hb => ?_) | refine wm_nwant _ (fun hb => ?_) (fun hb => ?_) | refine wd_want _ (fun hb => ?_) (fun hb => ?_) | refine wm_want _ (fun hb => ?_) (fun hb => ?_) | refine wt_nwant _ (fun hb => ?_) (fun hb => ?_) | refine wt_want _ (fun hb => ?_) (fun hb => ?_)) <;> (simp only [go_sem, hb])) | (refine wm_done ?_; (simp only [go_sem])) | (refine wt_done ?_; (simp only [go_sem])) | (refine wg_run ?_; (simp only [go_sem])) | (refine wt_fork (by (simp only [go_sem]); first | done | rfl) ?_ ?_ <;> (simp only [go_sem]))) | (first | fail))
  ((first | refine wd_cl [0] (by (simp only [go_sem]); first | done | rfl) (l6Draw bs hB x hx p1 (by omega)) ?_ | refine wm_cl [0] (by (simp only [go_sem]); first | done | rfl) (l6Draw bs hB x hx p1 (by omega)) (by (simp only [go_sem]); first | done | rfl) (by (simp only [go_sem]); first | done | rfl) ?_ | refine wt_cl [0] (by (simp only [go_sem]); first | done | rfl) (l6Draw bs hB x hx p1 (by omega)) (by (simp only [go_sem]); first | done | rfl) (by (simp only [go_sem]); first | done | rfl) ?_); rintro _ _ ⟨k, u, p2, rfl, hk, hu, hty, hs, hp2, rfl⟩; (simp only [go_sem]))
  repeat' (first | (first | ((first | refine wd_split _ (fun hb => ?_) (fun hb => ?_) | refine wd_nwant _ (fun hb => ?_) (fun hb => ?_) | refine wm_nwant _ (fun hb => ?_) (fun hb => ?_) | refine wd_want _ (fun hb => ?_) (fun hb => ?_) | refine wm_want _ (fun hb => ?_) (fun hb => ?_) | refine wt_nwant _ (fun hb => ?_) (fun hb => ?_) | refine wt_want _ (fun hb => ?_) (fun hb => ?_)) <;> (simp only [go_sem, hb])) | (refine wm_done ?_; (simp only [go_sem])) | (refine wt_done ?_; (simp only [go_sem])) | (refine wg_run ?_; (simp only [go_sem])) | (refine wt_fork (by (simp only [go_sem]); first | done | rfl) ?_ ?_ <;> (simp only [go_sem]))) | (first | fail))
  exact hR _ (ret_at [] (by (simp only [go_sem]); first | done | rfl) (by (simp only [go_sem]); first | done | rfl) ⟨k, p2, rfl, hk, hs, by omega, rfl⟩)
end Go.Proofs.Ytbiobfbonpiiiaa
/- The reference's draws of one coercion and of three. On shadows. -/
namespace Go.Proofs.Ytbiobfbonpiiiaa
open Go.RowKit Go.Proofs.Sh Go.Proofs.Grad
set_option maxRecDepth 100000
set_option maxHeartbeats 8000000
/-- a draw of some coercion -/
def SomeC (r : AV) (H' : List Blk) : Prop := ∃ x : Co, r = .agg (coC x) ∧ x.size ≤ 1000 ∧ H' = []
theorem dCoValid (l : List Int) (hl : Code8 l) : ACl Try.prog 22 [.one (.sl (byR l))] [] SomeC := by
  have ho := opn l hl.len hl.all
  refine acl_in Try.func22 rfl isfn_22 (Nat.le_of_ble_eq_true rfl) (fun R hR => ?_); rw [Try.results22] at hR; refine wg_run ?_; (simp only [Try.f22, go_sem])
  ((first | refine wd_cl [] (by (simp only [go_sem]); first | done | rfl) (ho) ?_ | refine wm_cl [] (by (simp only [go_sem]); first | done | rfl) (ho) (by (simp only [go_sem]); first | done | rfl) (by (simp only [go_sem]); first | done | rfl) ?_ | refine wt_cl [] (by (simp only [go_sem]); first | done | rfl) (ho) (by (simp only [go_sem]); first | done | rfl) (by (simp only [go_sem]); first | done | rfl) ?_); rintro _ _ ⟨bs, hB, rfl, rfl⟩ <;> (simp only [go_sem]))
  have h1 := l6One bs hB 0 (by omega)
  repeat' (first | (first | ((first | refine wd_split _ (fun hb => ?_) (fun hb => ?_) | refine wd_nwant _ (fun hb => ?_) (fun hb => ?_) | refine wm_nwant _ (fun hb => ?_) (fun hb => ?_) | refine wd_want _ (fun hb => ?_) (fun hb => ?_) | refine wm_want _ (fun hb => ?_) (fun hb => ?_) | refine wt_nwant _ (fun hb => ?_) (fun hb => ?_) | refine wt_want _ (fun hb => ?_) (fun hb => ?_)) <;> (simp only [go_sem, hb])) | (refine wm_done ?_; (simp only [go_sem])) | (refine wt_done ?_; (simp only [go_sem])) | (refine wg_run ?_; (simp only [go_sem])) | (refine wt_fork (by (simp only [go_sem]); first | done | rfl) ?_ ?_ <;> (simp only [go_sem]))) | (first | fail))
  ((first | refine wd_cl [1] (by (simp only [go_sem]); first | done | rfl) (h1) ?_ | refine wm_cl [1] (by (simp only [go_sem]); first | done | rfl) (h1) (by (simp only [go_sem]); first | done | rfl) (by (simp only [go_sem]); first | done | rfl) ?_ | refine wt_cl [1] (by (simp only [go_sem]); first | done | rfl) (h1) (by (simp only [go_sem]); first | done | rfl) (by (simp only [go_sem]); first | done | rfl) ?_); rintro _ _ ⟨k, p1, rfl, hk, hs, hp1, rfl⟩ <;> (simp only [go_sem]))
  have h2 := l6Mutate bs hB p1 (by omega) k.co (by rw [K.co_size]; omega)
  rw [K.co_size] at h2
  repeat' (first | (first | ((first | refine wd_split _ (fun hb => ?_) (fun hb => ?_) | refine wd_nwant _ (fun hb => ?_) (fun hb => ?_) | refine wm_nwant _ (fun hb => ?_) (fun hb => ?_) | refine wd_want _ (fun hb => ?_) (fun hb => ?_) | refine wm_want _ (fun hb => ?_) (fun hb => ?_) | refine wt_nwant _ (fun hb => ?_) (fun hb => ?_) | refine wt_want _ (fun hb => ?_) (fun hb => ?_)) <;> (simp only [go_sem, hb])) | (refine wm_done ?_; (simp only [go_sem])) | (refine wt_done ?_; (simp only [go_sem])) | (refine wg_run ?_; (simp only [go_sem])) | (refine wt_fork (by (simp only [go_sem]); first | done | rfl) ?_ ?_ <;> (simp only [go_sem]))) | (first | fail))
  ((first | refine wd_cl [1] (by (simp only [go_sem]); first | done | rfl) (h2) ?_ | refine wm_cl [1] (by (simp only [go_sem]); first | done | rfl) (h2) (by (simp only [go_sem]); first | done | rfl) (by (simp only [go_sem]); first | done | rfl) ?_ | refine wt_cl [1] (by (simp only [go_sem]); first | done | rfl) (h2) (by (simp only [go_sem]); first | done | rfl) (by (simp only [go_sem]); first | done | rfl) ?_); rintro _ _ ⟨x, p2, rfl, hx, hp2, rfl⟩ <;> (simp only [go_sem]))
  repeat' (first | (first | ((first | refine wd_split _ (fun hb => ?_) (fun hb => ?_) | refine wd_nwant _ (fun hb => ?_) (fun hb => ?_) | refine wm_nwant _ (fun hb => ?_) (fun hb => ?_) | refine wd_want _ (fun hb => ?_) (fun hb => ?_) | refine wm_want _ (fun hb => ?_) (fun hb => ?_) | refine wt_nwant _ (fun hb => ?_) (fun hb => ?_) | refine wt_want _ (fun hb => ?_) (fun hb => ?_)) <;> (simp only [go_sem, hb])) | (refine wm_done ?_; (simp only [go_sem])) | (refine wt_done ?_; (simp only [go_sem])) | (refine wg_run ?_; (simp only [go_sem])) | (refine wt_fork (by (simp only [go_sem]); first | done | rfl) ?_ ?_ <;> (simp only [go_sem]))) | (first | fail))
  exact hR _ (ret_at [] (by (simp only [go_sem]); first | done | rfl) (by (simp only [go_sem]); first | done | rfl) ⟨x, rfl, by omega, rfl⟩)
/-- three coercions of a form, and two types -/
def Some3 (r : AV) (H' : List Blk) : Prop := ∃ (a b c : K) (t u : T), (∃ v w : T, a.typed t v = true ∧ b.typed v w = true ∧ c.typed w u = true) ∧ r = .tup [.agg (coC a.co), .agg (coC b.co), .agg (coC c.co), .agg (tyC t.ty), .agg (tyC u.ty)] ∧ (a.wf = true ∧ a.size ≤ 200) ∧ (b.wf = true ∧ b.size ≤ 200) ∧ (c.wf = true ∧ c.size ≤ 200) ∧ t.depth ≤ 4 ∧ u.depth ≤ 4 ∧ H' = []
theorem dThree (l : List Int) (hl : Code8 l) : ACl Try.prog 20 [.one (.sl (byR l))] [] Some3 := by
  have ho := opn l hl.len hl.all
  refine acl_in Try.func20 rfl isfn_20 (Nat.le_of_ble_eq_true rfl) (fun R hR => ?_); rw [Try.results20] at hR; refine wg_run ?_; (simp only [Try.f20, go_sem])
  ((first | refine wd_cl [] (by (simp only [go_sem]); first | done | rfl) (ho) ?_ | refine wm_cl [] (by (simp only [go_sem]); first | done | rfl) (ho) (by (simp only [go_sem]); first | done | rfl) (by (simp only [go_sem]); first | done | rfl) ?_ | refine wt_cl [] (by (simp only [go_sem]); first | done | rfl) (ho) (by (simp only [go_sem]); first | done | rfl) (by (simp only [go_sem]); first | done | rfl) ?_); rintro _ _ ⟨bs, hB, rfl, rfl⟩ <;> (simp only [go_sem]))
  have ht := l1Type bs hB 0 (by omega)
  ((first | refine wd_cl [5] (by (simp only [go_sem]); first | done | rfl) (ht) ?_ | refine wm_cl [5] (by (simp only [go_sem]); first | done | rfl) (ht) (by (simp only [go_sem]); first | done | rfl) (by (simp only [go_sem]); first | done | rfl) ?_ | refine wt_cl [5] (by (simp only [go_sem]); first | done | rfl) (ht) (by (simp only [go_sem]); first | done | rfl) (by (simp only [go_sem]); first | done | rfl) ?_); rintro _ _ ⟨x, p1, rfl, hx, hp1, rfl⟩ <;> (simp only [go_sem]))
  have h1 := l6Draw bs hB x hx p1 (by omega)
  repeat' (first | (first | ((first | refine wd_split _ (fun hb => ?_) (fun hb => ?_) | refine wd_nwant _ (fun hb => ?_) (fun hb => ?_) | refine wm_nwant _ (fun hb => ?_) (fun hb => ?_) | refine wd_want _ (fun hb => ?_) (fun hb => ?_) | refine wm_want _ (fun hb => ?_) (fun hb => ?_) | refine wt_nwant _ (fun hb => ?_) (fun hb => ?_) | refine wt_want _ (fun hb => ?_) (fun hb => ?_)) <;> (simp only [go_sem, hb])) | (refine wm_done ?_; (simp only [go_sem])) | (refine wt_done ?_; (simp only [go_sem])) | (refine wg_run ?_; (simp only [go_sem])) | (refine wt_fork (by (simp only [go_sem]); first | done | rfl) ?_ ?_ <;> (simp only [go_sem]))) | (first | (refine wd_tree (.op 0 false (.op 1 false (.op 2 false (.op 3 false (.op 4 false (.op 5 false (.op 6 false (.op 7 false (.op 8 false (.op 9 true .nil)))))))))) [0, 1, 2, 3, 4] follows (by decide +kernel) (by (simp only [go_sem]); first | done | rfl) ?_; (simp only [go_sem])) | fail))
  ((first | refine wd_cl [5] (by (simp only [go_sem]); first | done | rfl) (h1) ?_ | refine wm_cl [5] (by (simp only [go_sem]); first | done | rfl) (h1) (by (simp only [go_sem]); first | done | rfl) (by (simp only [go_sem]); first | done | rfl) ?_ | refine wt_cl [5] (by (simp only [go_sem]); first | done | rfl) (h1) (by (simp only [go_sem]); first | done | rfl) (by (simp only [go_sem]); first | done | rfl) ?_); rintro _ _ ⟨a, t, p2, rfl, ha, ht, hta, has, hp2, rfl⟩ <;> (simp only [go_sem]))
  have h2 := l6Draw bs hB t ht p2 (by omega)
  repeat' (first | (first | ((first | refine wd_split _ (fun hb => ?_) (fun hb => ?_) | refine wd_nwant _ (fun hb => ?_) (fun hb => ?_) | refine wm_nwant _ (fun hb => ?_) (fun hb => ?_) | refine wd_want _ (fun hb => ?_) (fun hb => ?_) | refine wm_want _ (fun hb => ?_) (fun hb => ?_) | refine wt_nwant _ (fun hb => ?_) (fun hb => ?_) | refine wt_want _ (fun hb => ?_) (fun hb => ?_)) <;> (simp only [go_sem, hb])) | (refine wm_done ?_; (simp only [go_sem])) | (refine wt_done ?_; (simp only [go_sem])) | (refine wg_run ?_; (simp only [go_sem])) | (refine wt_fork (by (simp only [go_sem]); first | done | rfl) ?_ ?_ <;> (simp only [go_sem]))) | (first | (refine wd_tree (.op 0 false (.op 1 false (.op 2 false (.op 3 false (.op 4 false (.op 5 false (.op 6 false (.op 7 false (.op 8 false (.op 9 true .nil)))))))))) [0, 1, 2, 3, 4] follows (by decide +kernel) (by (simp only [go_sem]); first | done | rfl) ?_; (simp only [go_sem])) | fail))
  ((first | refine wd_cl [5] (by (simp only [go_sem]); first | done | rfl) (h2) ?_ | refine wm_cl [5] (by (simp only [go_sem]); first | done | rfl) (h2) (by (simp only [go_sem]); first | done | rfl) (by (simp only [go_sem]); first | done | rfl) ?_ | refine wt_cl [5] (by (simp only [go_sem]); first | done | rfl) (h2) (by (simp only [go_sem]); first | done | rfl) (by (simp only [go_sem]); first | done | rfl) ?_); rintro _ _ ⟨b, u, p3, rfl, hb', hu, htb, hbs, hp3, rfl⟩ <;> (simp only [go_sem]))
  have h3 := l6Draw bs hB u hu p3 (by omega)
  repeat' (first | (first | ((first | refine wd_split _ (fun hb => ?_) (fun hb => ?_) | refine wd_nwant _ (fun hb => ?_) (fun hb => ?_) | refine wm_nwant _ (fun hb => ?_) (fun hb => ?_) | refine wd_want _ (fun hb => ?_) (fun hb => ?_) | refine wm_want _ (fun hb => ?_) (fun hb => ?_) | refine wt_nwant _ (fun hb => ?_) (fun hb => ?_) | refine wt_want _ (fun hb => ?_) (fun hb => ?_)) <;> (simp only [go_sem, hb])) | (refine wm_done ?_; (simp only [go_sem])) | (refine wt_done ?_; (simp only [go_sem])) | (refine wg_run ?_; (simp only [go_sem])) | (refine wt_fork (by (simp only [go_sem]); first | done | rfl) ?_ ?_ <;> (simp only [go_sem]))) | (first | (refine wd_tree (.op 0 false (.op 1 false (.op 2 false (.op 3 false (.op 4 false (.op 5 false (.op 6 false (.op 7 false (.op 8 false (.op 9 true .nil)))))))))) [0, 1, 2, 3, 4] follows (by decide +kernel) (by (simp only [go_sem]); first | done | rfl) ?_; (simp only [go_sem])) | fail))
  ((first | refine wd_cl [5] (by (simp only [go_sem]); first | done | rfl) (h3) ?_ | refine wm_cl [5] (by (simp only [go_sem]); first | done | rfl) (h3) (by (simp only [go_sem]); first | done | rfl) (by (simp only [go_sem]); first | done | rfl) ?_ | refine wt_cl [5] (by (simp only [go_sem]); first | done | rfl) (h3) (by (simp only [go_sem]); first | done | rfl) (by (simp only [go_sem]); first | done | rfl) ?_); rintro _ _ ⟨c, v, p4, rfl, hc, hv, htc, hcs, hp4, rfl⟩ <;> (simp only [go_sem]))
  repeat' (first | (first | ((first | refine wd_split _ (fun hb => ?_) (fun hb => ?_) | refine wd_nwant _ (fun hb => ?_) (fun hb => ?_) | refine wm_nwant _ (fun hb => ?_) (fun hb => ?_) | refine wd_want _ (fun hb => ?_) (fun hb => ?_) | refine wm_want _ (fun hb => ?_) (fun hb => ?_) | refine wt_nwant _ (fun hb => ?_) (fun hb => ?_) | refine wt_want _ (fun hb => ?_) (fun hb => ?_)) <;> (simp only [go_sem, hb])) | (refine wm_done ?_; (simp only [go_sem])) | (refine wt_done ?_; (simp only [go_sem])) | (refine wg_run ?_; (simp only [go_sem])) | (refine wt_fork (by (simp only [go_sem]); first | done | rfl) ?_ ?_ <;> (simp only [go_sem]))) | (first | (refine wd_tree (.op 0 false (.op 1 false (.op 2 false (.op 3 false (.op 4 false (.op 5 false (.op 6 false (.op 7 false (.op 8 false (.op 9 true .nil)))))))))) [0, 1, 2, 3, 4] follows (by decide +kernel) (by (simp only [go_sem]); first | done | rfl) ?_; (simp only [go_sem])) | fail))
  exact hR _ (ret_at [] (by (simp only [go_sem]); first | done | rfl) (by (simp only [go_sem]); first | done | rfl) ⟨a, b, c, x, v, ⟨t, u, hta, htb, htc⟩, rfl, ⟨ha, by omega⟩, ⟨hb', by omega⟩, ⟨hc, by omega⟩, hx, hv, rfl⟩)
/-- two coercions, not too large -/
def Some2 (r : AV) (H' : List Blk) : Prop := ∃ a b : Co, r = .tup [.agg (coC a), .agg (coC b)] ∧ a.size ≤ 1000 ∧ b.size ≤ 1000 ∧ H' = []
theorem dCompose (l : List Int) (hl : Code8 l) : ACl Try.prog 25 [.one (.sl (byR l))] [] Some2 := by
  have ho := opn l hl.len hl.all
  refine acl_in Try.func25 rfl isfn_25 (Nat.le_of_ble_eq_true rfl) (fun R hR => ?_); rw [Try.results25] at hR; refine wg_run ?_; (simp only [Try.f25, go_sem])
  ((first | refine wd_cl [] (by (simp only [go_sem]); first | done | rfl) (ho) ?_ | refine wm_cl [] (by (simp only [go_sem]); first | done | rfl) (ho) (by (simp only [go_sem]); first | done | rfl) (by (simp only [go_sem]); first | done | rfl) ?_ | refine wt_cl [] (by (simp only [go_sem]); first | done | rfl) (ho) (by (simp only [go_sem]); first | done | rfl) (by (simp only [go_sem]); first | done | rfl) ?_); rintro _ _ ⟨bs, hB, rfl, rfl⟩ <;> (simp only [go_sem]))
  have ht := l1Type bs hB 0 (by omega)
  repeat' (first | (first | ((first | refine wd_split _ (fun hb => ?_) (fun hb => ?_) | refine wd_nwant _ (fun hb => ?_) (fun hb => ?_) | refine wm_nwant _ (fun hb => ?_) (fun hb => ?_) | refine wd_want _ (fun hb => ?_) (fun hb => ?_) | refine wm_want _ (fun hb => ?_) (fun hb => ?_) | refine wt_nwant _ (fun hb => ?_) (fun hb => ?_) | refine wt_want _ (fun hb => ?_) (fun hb => ?_)) <;> (simp only [go_sem, hb])) | (refine wm_done ?_; (simp only [go_sem])) | (refine wt_done ?_; (simp only [go_sem])) | (refine wg_run ?_; (simp only [go_sem])) | (refine wt_fork (by (simp only [go_sem]); first | done | rfl) ?_ ?_ <;> (simp only [go_sem]))) | (first | fail))
  ((first | refine wd_cl [2] (by (simp only [go_sem]); first | done | rfl) (ht) ?_ | refine wm_cl [2] (by (simp only [go_sem]); first | done | rfl) (ht) (by (simp only [go_sem]); first | done | rfl) (by (simp only [go_sem]); first | done | rfl) ?_ | refine wt_cl [2] (by (simp only [go_sem]); first | done | rfl) (ht) (by (simp only [go_sem]); first | done | rfl) (by (simp only [go_sem]); first | done | rfl) ?_); rintro _ _ ⟨x, p1, rfl, hx, hp1, rfl⟩ <;> (simp only [go_sem]))
  have h1 := l6Draw bs hB x hx p1 (by omega)
  repeat' (first | (first | ((first | refine wd_split _ (fun hb => ?_) (fun hb => ?_) | refine wd_nwant _ (fun hb => ?_) (fun hb => ?_) | refine wm_nwant _ (fun hb => ?_) (fun hb => ?_) | refine wd_want _ (fun hb => ?_) (fun hb => ?_) | refine wm_want _ (fun hb => ?_) (fun hb => ?_) | refine wt_nwant _ (fun hb => ?_) (fun hb => ?_) | refine wt_want _ (fun hb => ?_) (fun hb => ?_)) <;> (simp only [go_sem, hb])) | (refine wm_done ?_; (simp only [go_sem])) | (refine wt_done ?_; (simp only [go_sem])) | (refine wg_run ?_; (simp only [go_sem])) | (refine wt_fork (by (simp only [go_sem]); first | done | rfl) ?_ ?_ <;> (simp only [go_sem]))) | (first | fail))
  ((first | refine wd_cl [2] (by (simp only [go_sem]); first | done | rfl) (h1) ?_ | refine wm_cl [2] (by (simp only [go_sem]); first | done | rfl) (h1) (by (simp only [go_sem]); first | done | rfl) (by (simp only [go_sem]); first | done | rfl) ?_ | refine wt_cl [2] (by (simp only [go_sem]); first | done | rfl) (h1) (by (simp only [go_sem]); first | done | rfl) (by (simp only [go_sem]); first | done | rfl) ?_); rintro _ _ ⟨a, t, p2, rfl, ha, ht, hta, has, hp2, rfl⟩ <;> (simp only [go_sem]))
  have h2 := l6Draw bs hB t ht p2 (by omega)
  repeat' (first | (first | ((first | refine wd_split _ (fun hb => ?_) (fun hb => ?_) | refine wd_nwant _ (fun hb => ?_) (fun hb => ?_) | refine wm_nwant _ (fun hb => ?_) (fun hb => ?_) | refine wd_want _ (fun hb => ?_) (fun hb => ?_) | refine wm_want _ (fun hb => ?_) (fun hb => ?_) | refine wt_nwant _ (fun hb => ?_) (fun hb => ?_) | refine wt_want _ (fun hb => ?_) (fun hb => ?_)) <;> (simp only [go_sem, hb])) | (refine wm_done ?_; (simp only [go_sem])) | (refine wt_done ?_; (simp only [go_sem])) | (refine wg_run ?_; (simp only [go_sem])) | (refine wt_fork (by (simp only [go_sem]); first | done | rfl) ?_ ?_ <;> (simp only [go_sem]))) | (first | fail))
  ((first | refine wd_cl [2] (by (simp only [go_sem]); first | done | rfl) (h2) ?_ | refine wm_cl [2] (by (simp only [go_sem]); first | done | rfl) (h2) (by (simp only [go_sem]); first | done | rfl) (by (simp only [go_sem]); first | done | rfl) ?_ | refine wt_cl [2] (by (simp only [go_sem]); first | done | rfl) (h2) (by (simp only [go_sem]); first | done | rfl) (by (simp only [go_sem]); first | done | rfl) ?_); rintro _ _ ⟨b, u, p3, rfl, hb', hu, htb, hbs, hp3, rfl⟩ <;> (simp only [go_sem]))
  have hk := pick bs hB p3 (by omega) 6 (by omega) (by omega)
  repeat' (first | (first | ((first | refine wd_split _ (fun hb => ?_) (fun hb => ?_) | refine wd_nwant _ (fun hb => ?_) (fun hb => ?_) | refine wm_nwant _ (fun hb => ?_) (fun hb => ?_) | refine wd_want _ (fun hb => ?_) (fun hb => ?_) | refine wm_want _ (fun hb => ?_) (fun hb => ?_) | refine wt_nwant _ (fun hb => ?_) (fun hb => ?_) | refine wt_want _ (fun hb => ?_) (fun hb => ?_)) <;> (simp only [go_sem, hb])) | (refine wm_done ?_; (simp only [go_sem])) | (refine wt_done ?_; (simp only [go_sem])) | (refine wg_run ?_; (simp only [go_sem])) | (refine wt_fork (by (simp only [go_sem]); first | done | rfl) ?_ ?_ <;> (simp only [go_sem]))) | (first | fail) | (refine wd_mix 2 [2] follows (by kernel_rfl) (by (simp only [go_sem]); first | done | rfl) ?_; (simp only [go_sem])))
  ((first | refine wd_cl [2] (by (simp only [go_sem]); first | done | rfl) (hk) ?_ | refine wm_cl [2] (by (simp only [go_sem]); first | done | rfl) (hk) (by (simp only [go_sem]); first | done | rfl) (by (simp only [go_sem]); first | done | rfl) ?_ | refine wt_cl [2] (by (simp only [go_sem]); first | done | rfl) (hk) (by (simp only [go_sem]); first | done | rfl) (by (simp only [go_sem]); first | done | rfl) ?_); rintro _ _ ⟨z, rfl, hz, hz1, rfl⟩ <;> (simp only [go_sem]))
  repeat' (first | (first | ((first | refine wd_split _ (fun hb => ?_) (fun hb => ?_) | refine wd_nwant _ (fun hb => ?_) (fun hb => ?_) | refine wm_nwant _ (fun hb => ?_) (fun hb => ?_) | refine wd_want _ (fun hb => ?_) (fun hb => ?_) | refine wm_want _ (fun hb => ?_) (fun hb => ?_) | refine wt_nwant _ (fun hb => ?_) (fun hb => ?_) | refine wt_want _ (fun hb => ?_) (fun hb => ?_)) <;> (simp only [go_sem, hb])) | (refine wm_done ?_; (simp only [go_sem])) | (refine wt_done ?_; (simp only [go_sem])) | (refine wg_run ?_; (simp only [go_sem])) | (refine wt_fork (by (simp only [go_sem]); first | done | rfl) ?_ ?_ <;> (simp only [go_sem]))) | (first | fail) | (refine wd_mix 2 [2] follows (by kernel_rfl) (by (simp only [go_sem]); first | done | rfl) ?_; (simp only [go_sem])))
  · have h3 := l6One bs hB (p3 + 1) (by omega)
    ((first | refine wd_cl [2] (by (simp only [go_sem]); first | done | rfl) (h3) ?_ | refine wm_cl [2] (by (simp only [go_sem]); first | done | rfl) (h3) (by (simp only [go_sem]); first | done | rfl) (by (simp only [go_sem]); first | done | rfl) ?_ | refine wt_cl [2] (by (simp only [go_sem]); first | done | rfl) (h3) (by (simp only [go_sem]); first | done | rfl) (by (simp only [go_sem]); first | done | rfl) ?_); rintro _ _ ⟨d, p4, rfl, hd, hds, hp4, rfl⟩ <;> (simp only [go_sem]))
    have m1 := l6Mutate bs hB p4 (by omega) a.co (by rw [K.co_size]; omega)
    rw [K.co_size] at m1
    repeat' (first | (first | ((first | refine wd_split _ (fun hb => ?_) (fun hb => ?_) | refine wd_nwant _ (fun hb => ?_) (fun hb => ?_) | refine wm_nwant _ (fun hb => ?_) (fun hb => ?_) | refine wd_want _ (fun hb => ?_) (fun hb => ?_) | refine wm_want _ (fun hb => ?_) (fun hb => ?_) | refine wt_nwant _ (fun hb => ?_) (fun hb => ?_) | refine wt_want _ (fun hb => ?_) (fun hb => ?_)) <;> (simp only [go_sem, hb])) | (refine wm_done ?_; (simp only [go_sem])) | (refine wt_done ?_; (simp only [go_sem])) | (refine wg_run ?_; (simp only [go_sem])) | (refine wt_fork (by (simp only [go_sem]); first | done | rfl) ?_ ?_ <;> (simp only [go_sem]))) | (first | fail) | (refine wd_mix 2 [2] follows (by kernel_rfl) (by (simp only [go_sem]); first | done | rfl) ?_; (simp only [go_sem])))
    all_goals
      ((first | refine wd_cl [2] (by (simp only [go_sem]); first | done | rfl) (m1) ?_ | refine wm_cl [2] (by (simp only [go_sem]); first | done | rfl) (m1) (by (simp only [go_sem]); first | done | rfl) (by (simp only [go_sem]); first | done | rfl) ?_ | refine wt_cl [2] (by (simp only [go_sem]); first | done | rfl) (m1) (by (simp only [go_sem]); first | done | rfl) (by (simp only [go_sem]); first | done | rfl) ?_); rintro _ _ ⟨v, p5, rfl, hv, hp5, rfl⟩ <;> (simp only [go_sem]))
      have m2 := l6Mutate bs hB p5 (by omega) d.co (by rw [K.co_size]; omega)
      rw [K.co_size] at m2
      repeat' (first | (first | ((first | refine wd_split _ (fun hb => ?_) (fun hb => ?_) | refine wd_nwant _ (fun hb => ?_) (fun hb => ?_) | refine wm_nwant _ (fun hb => ?_) (fun hb => ?_) | refine wd_want _ (fun hb => ?_) (fun hb => ?_) | refine wm_want _ (fun hb => ?_) (fun hb => ?_) | refine wt_nwant _ (fun hb => ?_) (fun hb => ?_) | refine wt_want _ (fun hb => ?_) (fun hb => ?_)) <;> (simp only [go_sem, hb])) | (refine wm_done ?_; (simp only [go_sem])) | (refine wt_done ?_; (simp only [go_sem])) | (refine wg_run ?_; (simp only [go_sem])) | (refine wt_fork (by (simp only [go_sem]); first | done | rfl) ?_ ?_ <;> (simp only [go_sem]))) | (first | fail) | (refine wd_mix 2 [2] follows (by kernel_rfl) (by (simp only [go_sem]); first | done | rfl) ?_; (simp only [go_sem])))
      ((first | refine wd_cl [2] (by (simp only [go_sem]); first | done | rfl) (m2) ?_ | refine wm_cl [2] (by (simp only [go_sem]); first | done | rfl) (m2) (by (simp only [go_sem]); first | done | rfl) (by (simp only [go_sem]); first | done | rfl) ?_ | refine wt_cl [2] (by (simp only [go_sem]); first | done | rfl) (m2) (by (simp only [go_sem]); first | done | rfl) (by (simp only [go_sem]); first | done | rfl) ?_); rintro _ _ ⟨w, p6, rfl, hw, hp6, rfl⟩ <;> (simp only [go_sem]))
      repeat' (first | (first | ((first | refine wd_split _ (fun hb => ?_) (fun hb => ?_) | refine wd_nwant _ (fun hb => ?_) (fun hb => ?_) | refine wm_nwant _ (fun hb => ?_) (fun hb => ?_) | refine wd_want _ (fun hb => ?_) (fun hb => ?_) | refine wm_want _ (fun hb => ?_) (fun hb => ?_) | refine wt_nwant _ (fun hb => ?_) (fun hb => ?_) | refine wt_want _ (fun hb => ?_) (fun hb => ?_)) <;> (simp only [go_sem, hb])) | (refine wm_done ?_; (simp only [go_sem])) | (refine wt_done ?_; (simp only [go_sem])) | (refine wg_run ?_; (simp only [go_sem])) | (refine wt_fork (by (simp only [go_sem]); first | done | rfl) ?_ ?_ <;> (simp only [go_sem]))) | (first | fail) | (refine wd_mix 2 [2] follows (by kernel_rfl) (by (simp only [go_sem]); first | done | rfl) ?_; (simp only [go_sem])))
    all_goals exact hR _ (ret_at [] (by (simp only [go_sem]); first | done | rfl) (by (simp only [go_sem]); first | done | rfl) ⟨v, w, rfl, by omega, by omega, rfl⟩)
  · have m1 := l6Mutate bs hB (p3 + 1) (by omega) a.co (by rw [K.co_size]; omega)
    rw [K.co_size] at m1
    repeat' (first | (first | ((first | refine wd_split _ (fun hb => ?_) (fun hb => ?_) | refine wd_nwant _ (fun hb => ?_) (fun hb => ?_) | refine wm_nwant _ (fun hb => ?_) (fun hb => ?_) | refine wd_want _ (fun hb => ?_) (fun hb => ?_) | refine wm_want _ (fun hb => ?_) (fun hb => ?_) | refine wt_nwant _ (fun hb => ?_) (fun hb => ?_) | refine wt_want _ (fun hb => ?_) (fun hb => ?_)) <;> (simp only [go_sem, hb])) | (refine wm_done ?_; (simp only [go_sem])) | (refine wt_done ?_; (simp only [go_sem])) | (refine wg_run ?_; (simp only [go_sem])) | (refine wt_fork (by (simp only [go_sem]); first | done | rfl) ?_ ?_ <;> (simp only [go_sem]))) | (first | fail) | (refine wd_mix 2 [2] follows (by kernel_rfl) (by (simp only [go_sem]); first | done | rfl) ?_; (simp only [go_sem])))
    all_goals
      ((first | refine wd_cl [2] (by (simp only [go_sem]); first | done | rfl) (m1) ?_ | refine wm_cl [2] (by (simp only [go_sem]); first | done | rfl) (m1) (by (simp only [go_sem]); first | done | rfl) (by (simp only [go_sem]); first | done | rfl) ?_ | refine wt_cl [2] (by (simp only [go_sem]); first | done | rfl) (m1) (by (simp only [go_sem]); first | done | rfl) (by (simp only [go_sem]); first | done | rfl) ?_); rintro _ _ ⟨v, p5, rfl, hv, hp5, rfl⟩ <;> (simp only [go_sem]))
      have m2 := l6Mutate bs hB p5 (by omega) b.co (by rw [K.co_size]; omega)
      rw [K.co_size] at m2
      repeat' (first | (first | ((first | refine wd_split _ (fun hb => ?_) (fun hb => ?_) | refine wd_nwant _ (fun hb => ?_) (fun hb => ?_) | refine wm_nwant _ (fun hb => ?_) (fun hb => ?_) | refine wd_want _ (fun hb => ?_) (fun hb => ?_) | refine wm_want _ (fun hb => ?_) (fun hb => ?_) | refine wt_nwant _ (fun hb => ?_) (fun hb => ?_) | refine wt_want _ (fun hb => ?_) (fun hb => ?_)) <;> (simp only [go_sem, hb])) | (refine wm_done ?_; (simp only [go_sem])) | (refine wt_done ?_; (simp only [go_sem])) | (refine wg_run ?_; (simp only [go_sem])) | (refine wt_fork (by (simp only [go_sem]); first | done | rfl) ?_ ?_ <;> (simp only [go_sem]))) | (first | fail) | (refine wd_mix 2 [2] follows (by kernel_rfl) (by (simp only [go_sem]); first | done | rfl) ?_; (simp only [go_sem])))
      ((first | refine wd_cl [2] (by (simp only [go_sem]); first | done | rfl) (m2) ?_ | refine wm_cl [2] (by (simp only [go_sem]); first | done | rfl) (m2) (by (simp only [go_sem]); first | done | rfl) (by (simp only [go_sem]); first | done | rfl) ?_ | refine wt_cl [2] (by (simp only [go_sem]); first | done | rfl) (m2) (by (simp only [go_sem]); first | done | rfl) (by (simp only [go_sem]); first | done | rfl) ?_); rintro _ _ ⟨w, p6, rfl, hw, hp6, rfl⟩ <;> (simp only [go_sem]))
      repeat' (first | (first | ((first | refine wd_split _ (fun hb => ?_) (fun hb => ?_) | refine wd_nwant _ (fun hb => ?_) (fun hb => ?_) | refine wm_nwant _ (fun hb => ?_) (fun hb => ?_) | refine wd_want _ (fun hb => ?_) (fun hb => ?_) | refine wm_want _ (fun hb => ?_) (fun hb => ?_) | refine wt_nwant _ (fun hb => ?_) (fun hb => ?_) | refine wt_want _ (fun hb => ?_) (fun hb => ?_)) <;> (simp only [go_sem, hb])) | (refine wm_done ?_; (simp only [go_sem])) | (refine wt_done ?_; (simp only [go_sem])) | (refine wg_run ?_; (simp only [go_sem])) | (refine wt_fork (by (simp only [go_sem]); first | done | rfl) ?_ ?_ <;> (simp only [go_sem]))) | (first | fail) | (refine wd_mix 2 [2] follows (by kernel_rfl) (by (simp only [go_sem]); first | done | rfl) ?_; (simp only [go_sem])))
    all_goals exact hR _ (ret_at [] (by (simp only [go_sem]); first | done | rfl) (by (simp only [go_sem]); first | done | rfl) ⟨v, w, rfl, by omega, by omega, rfl⟩)
end Go.Proofs.Ytbiobfbonpiiiaa
/- Law: composition is associative. On shadows. -/
namespace Go.Proofs.Ytbiobfbonpiiiaa
open Go.RowKit Go.Proofs.Sh Go.Proofs.Grad
set_option maxRecDepth 100000
set_option maxHeartbeats 8000000
theorem lAssoc (l : List Int) (hc : ∀ k, 0 ≤ byte l k ∧ byte l k < 256) : AFn Try.prog 4 [.one (.sl (byR l))] (.one (.sc (.bool true))) := by
  by_cases hlen : 1048576 < l.length
  · have hg : decide (((l.length : Nat) : Int) > 1048576) = true := by simp; omega
    refine fn_in ?_; refine acl_in Try.func4 rfl isfn_4 (Nat.le_of_ble_eq_true rfl) (fun R hR => ?_); rw [Try.results4] at hR; refine wg_run ?_; (simp only [Try.f4, go_sem, hg])
    (refine hR _ (ret_at [] (by (simp only [go_sem]); first | done | rfl) (by (simp only [go_sem]); first | done | rfl) ⟨rfl, rfl⟩))
  · have hg : decide (((l.length : Nat) : Int) > 1048576) = false := by simp; omega
    have hd := dThree l ⟨by omega, hc⟩
    refine fn_in ?_; refine acl_in Try.func4 rfl isfn_4 (Nat.le_of_ble_eq_true rfl) (fun R hR => ?_); rw [Try.results4] at hR; refine wg_run ?_; (simp only [Try.f4, go_sem, hg])
    ((first | refine wd_cl [] (by (simp only [go_sem]); first | done | rfl) (hd) ?_ | refine wm_cl [] (by (simp only [go_sem]); first | done | rfl) (hd) (by (simp only [go_sem]); first | done | rfl) (by (simp only [go_sem]); first | done | rfl) ?_ | refine wt_cl [] (by (simp only [go_sem]); first | done | rfl) (hd) (by (simp only [go_sem]); first | done | rfl) (by (simp only [go_sem]); first | done | rfl) ?_); rintro _ _ ⟨a, b, c, t, u, hty, rfl, ⟨ha, has⟩, ⟨hb', hbs⟩, ⟨hc', hcs⟩, ht, hu, rfl⟩ <;> (simp only [go_sem]))
    have za := K.co_size a; have zb := K.co_size b; have zc := K.co_size c
    have i1 := iComp a.co b.co
    have i2 := sComp a.co b.co (by omega) (by omega)
    have z1 := Co.compV_size a.co b.co
    have e1 := iSameR (K.coO (a.co.compV b.co)) (by omega)
    have hassoc := @Co.assoc a.co b.co c.co
    have zz := Co.compV_zero
    generalize a.co.compV b.co = ab at *
    cases ab with
    | none =>
      simp only [Option.isSome_none] at i1 i2
      repeat' (first | (first | ((first | refine wd_split _ (fun hb => ?_) (fun hb => ?_) | refine wd_nwant _ (fun hb => ?_) (fun hb => ?_) | refine wm_nwant _ (fun hb => ?_) (fun hb => ?_) | refine wd_want _ (fun hb => ?_) (fun hb => ?_) | refine wm_want _ (fun hb => ?_) (fun hb => ?_) | refine wt_nwant _ (fun hb => ?_) (fun hb => ?_) | refine wt_want _ (fun hb => ?_) (fun hb => ?_)) <;> (simp only [go_sem, hb])) | (refine wm_done ?_; (simp only [go_sem])) | (refine wt_done ?_; (simp only [go_sem])) | (refine wg_run ?_; (simp only [go_sem])) | (refine wt_fork (by (simp only [go_sem]); first | done | rfl) ?_ ?_ <;> (simp only [go_sem]))) | (first | refine wd_fn (by (simp only [go_sem]); first | done | rfl) (i1) ?_ | refine wm_fn (by (simp only [go_sem]); first | done | rfl) (i1) (by (simp only [go_sem]); first | done | rfl) (by (simp only [go_sem]); first | done | rfl) ?_ | refine wt_fn (by (simp only [go_sem]); first | done | rfl) (i1) (by (simp only [go_sem]); first | done | rfl) (by (simp only [go_sem]); first | done | rfl) ?_); (simp only [go_sem]) | (first | refine wd_fn (by (simp only [go_sem]); first | done | rfl) (i2) ?_ | refine wm_fn (by (simp only [go_sem]); first | done | rfl) (i2) (by (simp only [go_sem]); first | done | rfl) (by (simp only [go_sem]); first | done | rfl) ?_ | refine wt_fn (by (simp only [go_sem]); first | done | rfl) (i2) (by (simp only [go_sem]); first | done | rfl) (by (simp only [go_sem]); first | done | rfl) ?_); (simp only [go_sem]) | (first | refine wd_fn (by (simp only [go_sem]); first | done | rfl) (e1) ?_ | refine wm_fn (by (simp only [go_sem]); first | done | rfl) (e1) (by (simp only [go_sem]); first | done | rfl) (by (simp only [go_sem]); first | done | rfl) ?_ | refine wt_fn (by (simp only [go_sem]); first | done | rfl) (e1) (by (simp only [go_sem]); first | done | rfl) (by (simp only [go_sem]); first | done | rfl) ?_); (simp only [go_sem]) | ((first | refine wd_mix 6 [] follows (by decide +kernel) (by (simp only [go_sem]); first | done | rfl) ?_ | refine wd_mix 5 [] follows (by decide +kernel) (by (simp only [go_sem]); first | done | rfl) ?_ | refine wd_mix 4 [] follows (by decide +kernel) (by (simp only [go_sem]); first | done | rfl) ?_ | refine wd_mix 3 [] follows (by decide +kernel) (by (simp only [go_sem]); first | done | rfl) ?_ | refine wd_mix 2 [] follows (by decide +kernel) (by (simp only [go_sem]); first | done | rfl) ?_ | refine wd_mix 1 [] follows (by decide +kernel) (by (simp only [go_sem]); first | done | rfl) ?_ | refine wd_mix 0 [] follows (by decide +kernel) (by (simp only [go_sem]); first | done | rfl) ?_ | fail); (simp only [go_sem])))
      all_goals (refine hR _ (ret_at [] (by (simp only [go_sem]); first | done | rfl) (by (simp only [go_sem]); first | done | rfl) ⟨rfl, rfl⟩))
    | some ab =>
      simp only [Option.isSome_some] at i1 i2
      have i3 := iComp b.co c.co
      have i4 := iComp ab.co c.co
      have z2 := Co.compV_size ab.co c.co
      generalize b.co.compV c.co = bc at *
      have i5 := iComp a.co (K.coO bc)
      have s1 := coSame 100000 (by omega) (K.coO (ab.co.compV c.co)) (K.coO (a.co.compV (K.coO bc))) (by simp only [K.coO] at z1; omega)
      have hs : bc.isSome = true → (ab.co.compV c.co).isSome = true → (a.co.compV (K.coO bc)).isSome = true → (K.coO (ab.co.compV c.co)).same (K.coO (a.co.compV (K.coO bc))) = true := by
        intro h1 h2 h3
        obtain ⟨bc, rfl⟩ := Option.isSome_iff_exists.1 h1
        obtain ⟨x, h2⟩ := Option.isSome_iff_exists.1 h2
        obtain ⟨y, h3⟩ := Option.isSome_iff_exists.1 h3
        rw [h2, h3, hassoc rfl rfl h2 h3]
        exact Co.same_refl _
      clear hassoc zz
      generalize (K.coO (ab.co.compV c.co)).same (K.coO (a.co.compV (K.coO bc))) = bs at *
      generalize a.co.compV (K.coO bc) = y at *
      generalize ab.co.compV c.co = x at *
      cases bc <;> cases x <;> cases y <;> simp only [Option.isSome, Bool.false_eq_true, forall_const, false_implies, implies_true] at hs
      all_goals (try subst hs)
      all_goals
        simp only [Option.isSome_some, Option.isSome_none] at i3 i4 i5
        repeat' (first | (first | ((first | refine wd_split _ (fun hb => ?_) (fun hb => ?_) | refine wd_nwant _ (fun hb => ?_) (fun hb => ?_) | refine wm_nwant _ (fun hb => ?_) (fun hb => ?_) | refine wd_want _ (fun hb => ?_) (fun hb => ?_) | refine wm_want _ (fun hb => ?_) (fun hb => ?_) | refine wt_nwant _ (fun hb => ?_) (fun hb => ?_) | refine wt_want _ (fun hb => ?_) (fun hb => ?_)) <;> (simp only [go_sem, hb])) | (refine wm_done ?_; (simp only [go_sem])) | (refine wt_done ?_; (simp only [go_sem])) | (refine wg_run ?_; (simp only [go_sem])) | (refine wt_fork (by (simp only [go_sem]); first | done | rfl) ?_ ?_ <;> (simp only [go_sem]))) | (first | refine wd_fn (by (simp only [go_sem]); first | done | rfl) (i1) ?_ | refine wm_fn (by (simp only [go_sem]); first | done | rfl) (i1) (by (simp only [go_sem]); first | done | rfl) (by (simp only [go_sem]); first | done | rfl) ?_ | refine wt_fn (by (simp only [go_sem]); first | done | rfl) (i1) (by (simp only [go_sem]); first | done | rfl) (by (simp only [go_sem]); first | done | rfl) ?_); (simp only [go_sem]) | (first | refine wd_fn (by (simp only [go_sem]); first | done | rfl) (i2) ?_ | refine wm_fn (by (simp only [go_sem]); first | done | rfl) (i2) (by (simp only [go_sem]); first | done | rfl) (by (simp only [go_sem]); first | done | rfl) ?_ | refine wt_fn (by (simp only [go_sem]); first | done | rfl) (i2) (by (simp only [go_sem]); first | done | rfl) (by (simp only [go_sem]); first | done | rfl) ?_); (simp only [go_sem]) | (first | refine wd_fn (by (simp only [go_sem]); first | done | rfl) (e1) ?_ | refine wm_fn (by (simp only [go_sem]); first | done | rfl) (e1) (by (simp only [go_sem]); first | done | rfl) (by (simp only [go_sem]); first | done | rfl) ?_ | refine wt_fn (by (simp only [go_sem]); first | done | rfl) (e1) (by (simp only [go_sem]); first | done | rfl) (by (simp only [go_sem]); first | done | rfl) ?_); (simp only [go_sem]) | (first | refine wd_fn (by (simp only [go_sem]); first | done | rfl) (i3) ?_ | refine wm_fn (by (simp only [go_sem]); first | done | rfl) (i3) (by (simp only [go_sem]); first | done | rfl) (by (simp only [go_sem]); first | done | rfl) ?_ | refine wt_fn (by (simp only [go_sem]); first | done | rfl) (i3) (by (simp only [go_sem]); first | done | rfl) (by (simp only [go_sem]); first | done | rfl) ?_); (simp only [go_sem]) | (first | refine wd_fn (by (simp only [go_sem]); first | done | rfl) (i4) ?_ | refine wm_fn (by (simp only [go_sem]); first | done | rfl) (i4) (by (simp only [go_sem]); first | done | rfl) (by (simp only [go_sem]); first | done | rfl) ?_ | refine wt_fn (by (simp only [go_sem]); first | done | rfl) (i4) (by (simp only [go_sem]); first | done | rfl) (by (simp only [go_sem]); first | done | rfl) ?_); (simp only [go_sem]) | (first | refine wd_fn (by (simp only [go_sem]); first | done | rfl) (i5) ?_ | refine wm_fn (by (simp only [go_sem]); first | done | rfl) (i5) (by (simp only [go_sem]); first | done | rfl) (by (simp only [go_sem]); first | done | rfl) ?_ | refine wt_fn (by (simp only [go_sem]); first | done | rfl) (i5) (by (simp only [go_sem]); first | done | rfl) (by (simp only [go_sem]); first | done | rfl) ?_); (simp only [go_sem]) | (first | refine wd_fn (by (simp only [go_sem]); first | done | rfl) (s1) ?_ | refine wm_fn (by (simp only [go_sem]); first | done | rfl) (s1) (by (simp only [go_sem]); first | done | rfl) (by (simp only [go_sem]); first | done | rfl) ?_ | refine wt_fn (by (simp only [go_sem]); first | done | rfl) (s1) (by (simp only [go_sem]); first | done | rfl) (by (simp only [go_sem]); first | done | rfl) ?_); (simp only [go_sem]) | ((first | refine wd_mix 6 [] follows (by decide +kernel) (by (simp only [go_sem]); first | done | rfl) ?_ | refine wd_mix 5 [] follows (by decide +kernel) (by (simp only [go_sem]); first | done | rfl) ?_ | refine wd_mix 4 [] follows (by decide +kernel) (by (simp only [go_sem]); first | done | rfl) ?_ | refine wd_mix 3 [] follows (by decide +kernel) (by (simp only [go_sem]); first | done | rfl) ?_ | refine wd_mix 2 [] follows (by decide +kernel) (by (simp only [go_sem]); first | done | rfl) ?_ | refine wd_mix 1 [] follows (by decide +kernel) (by (simp only [go_sem]); first | done | rfl) ?_ | refine wd_mix 0 [] follows (by decide +kernel) (by (simp only [go_sem]); first | done | rfl) ?_ | fail); (simp only [go_sem])))
      all_goals (refine hR _ (ret_at [] (by (simp only [go_sem]); first | done | rfl) (by (simp only [go_sem]); first | done | rfl) ⟨rfl, rfl⟩))
end Go.Proofs.Ytbiobfbonpiiiaa
/- From contracts on shadows to calls in worlds; a law's argument of bytes. -/
namespace Go.Proofs.Sh
open Go.RowKit
theorem sim_nil (w : World) : Sim [] [] [] w :=
  ⟨rfl, by simp, by simp, fun i b g h => by simp at h, fun i j b b' g _ h => by simp at h, fun i b g h => by simp at h⟩
theorem law_calls {P : Program} {f : FuncId} {args : List AV} {vs : Array Value} {w : World} (h : AFn P f args (.one (.sc (.bool true)))) (hr : AV.repl [] [] w args vs.toList) :
    Calls P f vs w (fun e w' => e = .returned (.bool true) ∧ Below w.heap.size w w') := by
  refine (h.out.2 [] [] w vs (sim_nil w) hr).mono ?_
  rintro e w' ⟨r, H', μ', v, rfl, ⟨rfl, rfl⟩, hS, hT, hv⟩
  simp only [AV.rep, C.rep] at hv
  refine ⟨by rw [hv.1], hT.keep.os, hT.keep.tape, hT.keep.output, hT.keep.size, fun b hb => hT.keep.block b (by simp [alive]) hb⟩
/-- bytes in memory -/
def Byt (w : World) (q : Option Addr) (n c : Nat) : Prop :=
  n ≤ c ∧ c ≤ maxLen ∧ ∀ i, i < n → ∃ b off, ∃ x : Int, q = some ⟨b, off, none⟩ ∧ b < w.heap.size ∧ w.cell? ⟨b, off + i, none⟩ = some (.int .u8 x) ∧ 0 ≤ x ∧ x ≤ 255
def byAt (w : World) (b off i : Nat) : Int := match w.cell? ⟨b, off + i, none⟩ with | some (.int _ x) => x | _ => 0
theorem repss_by {w : World} {b : Nat} : ∀ (l : List Int) (off : Nat), (∀ i (h : i < l.length), w.cell? ⟨b, off + i, none⟩ = some (.int .u8 l[i])) → C.repss [] [] w 1 (byR l) b off
  | [], _, _ => trivial
  | x :: l, off, h => by
    have h0 : w.cell? ⟨b, off, none⟩ = some (.int .u8 x) := h 0 (by simp)
    refine ⟨rfl, ⟨⟨_, h0, ⟨rfl, rfl⟩⟩, trivial⟩, repss_by l (off + 1) fun i hi => ?_⟩
    have := h (i + 1) (by simpa using hi)
    rw [show off + 1 + i = off + (i + 1) by omega]
    simpa using this
theorem Byt.rep {w : World} {q : Option Addr} {n c : Nat} (h : Byt w q n c) : ∃ l : List Int, (∀ k, 0 ≤ byte l k ∧ byte l k < 256) ∧ AV.rep [] [] w (.one (.sl (byR l))) (.slice q n c) := by
  obtain ⟨h1, h2, h3⟩ := h
  cases n with
  | zero =>
    refine ⟨[], fun k => by simp [byte], ?_⟩
    simp only [AV.rep, C.rep]
    exact ⟨q, c, rfl, by simp [byR], h2, .inl rfl⟩
  | succ n =>
    obtain ⟨b, off, x0, rfl, hb, _⟩ := h3 0 (by omega)
    have h4 : ∀ i, i < n + 1 → w.cell? ⟨b, off + i, none⟩ = some (.int .u8 (byAt w b off i)) ∧ 0 ≤ byAt w b off i ∧ byAt w b off i ≤ 255 := by
      intro i hi
      obtain ⟨b', off', x, e, _, g1, g2, g3⟩ := h3 i hi
      cases e
      simp only [byAt, g1]
      exact ⟨trivial, g2, g3⟩
    refine ⟨(List.range (n + 1)).map (byAt w b off), fun k => ?_, ?_⟩
    · by_cases hk : k < n + 1
      · have := h4 k hk
        simp [byte, hk]; omega
      · simp [byte, hk]
    · simp only [AV.rep, C.rep]
      refine ⟨_, c, by simp [byR_length], by simpa [byR_length] using h1, h2, .inr ⟨b, off, 1, rfl, hb, by simp, repss_by _ _ fun i hi => ?_⟩⟩
      simp at hi
      simpa using (h4 i hi).1
end Go.Proofs.Sh
namespace Go.Proofs.Ytbiobfbonpiiiaa
open Go.RowKit Go.Proofs.Sh
open Go.ChangeShapes Go.WideShapes Go.ChangeAt
theorem own_k : ownKnob Try.prog.godebug = none := by kernel_rfl
theorem laid_k : laidOutB Try.prog = true := by kernel_rfl
variable {H : Type} {enc : TypeId × Value → H} {w : World} {base : Nat} {spare : Nat → Bool} {held : Bool}
theorem add_no {b o k : Nat} : (⟨b, o, none⟩ : Addr).add k = ⟨b, o + k, none⟩ := by
  unfold Addr.add; split <;> simp_all
theorem spot_no {a : Addr} {v : Value} (h : w.cell? a = some v) : a.spot = none := by
  obtain ⟨b, o, s⟩ := a
  cases s with
  | none => rfl
  | some s =>
    simp only [World.cell?] at h
    split at h <;> simp at h
theorem read_Byt {fuel : Nat} {v : Value} {x : DataW H × List MemPlace} (h : DataW.trod enc Try.prog w base spare held fuel 22 [v] = some x) :
    ∃ (q : Option Addr) (n c : Nat), v = .slice q n c ∧ Byt w q n c := by
  have hc1 : Try.prog.cellsOf 5 = 1 := by kernel_rfl
  rcases DataW.trod_slice Try.underlying22 h with ⟨e1, _⟩ | ⟨a, len, cap, elems, rest, m', hm', e1, _, hb, hlc, hcm, hel, hall, _, _⟩
  · simp at e1
    subst e1
    exact ⟨none, 0, 0, rfl, by omega, by simp [maxLen], fun i hi => by omega⟩
  · simp at e1
    subst e1
    have hcell : ∀ i, i < len → ∃ k : Int, w.cell? (a.add i) = some (.int .u8 k) ∧ (Lit.int IntKind.u8 k).wf = true := by
      intro i hi
      have h1 := hall i hi
      rw [hc1, List.getElem?_eq_getElem (by omega), Nat.mul_one] at h1
      cases h2 : w.cells? base (a.add i) 1 with
      | none => rw [h2] at h1; simp at h1
      | some ds =>
        rw [h2] at h1
        simp only [Option.bind_some] at h1
        obtain ⟨k, e0, k1, k2⟩ := DataW.trod_int Try.underlying5 h1
        subst e0
        have h3 : w.cell? (a.add i) = some (.int .u8 k) := by
          unfold World.cells? at h2
          split at h2
          · simp only [List.range_succ, List.range_zero, List.nil_append, List.mapM_cons, List.mapM_nil, Option.pure_def, Option.bind_eq_bind] at h2
            cases h0 : w.cell? ((a.add i).add 0) with
            | none => simp [h0] at h2
            | some u =>
              simp [h0] at h2
              have e0 : (a.add i).add 0 = a.add i := by simp [Addr.add]
              rw [e0] at h0; rw [h0, h2]
          · cases h2
        exact ⟨k, h3, k2⟩
    refine ⟨some a, len, cap, rfl, hlc, hcm, fun i hi => ?_⟩
    have hs : a.spot = none := by
      obtain ⟨k, h3, _⟩ := hcell 0 (by omega)
      have := spot_no h3
      simp [Addr.add] at this
      exact this
    obtain ⟨k, h3, k2⟩ := hcell i hi
    obtain ⟨b, o, s⟩ := a
    simp at hs
    subst hs
    rw [add_no] at h3
    refine ⟨b, o, k, rfl, lt_of_cell h3, h3, ?_⟩
    simp [Lit.wf, IntKind.min, IntKind.max, IntKind.signed, IntKind.bits] at k2
    omega
set_option maxRecDepth 100000 in
theorem open_Byt {v : Value} {d : DataW H} {p : List MemPlace} {r : Reach} {b0 : Nat} (hv : Value.okWide Try.prog w r b0 22 v) (h : DataW.Trod enc Try.prog w base spare held 22 v d p) :
    ∃ (q : Option Addr) (n c : Nat), v = .slice q n c ∧ Byt w q n c := by
  obtain ⟨a, len, cap, rfl⟩ := okWide_slice Try.underlying22 hv
  obtain ⟨fuel, hf⟩ := h
  exact read_Byt hf
end Go.Proofs.Ytbiobfbonpiiiaa
