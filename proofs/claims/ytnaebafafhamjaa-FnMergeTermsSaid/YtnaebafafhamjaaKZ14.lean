/- Texts of the proof, one behind another. -/
import Derived.IntWalk
import Derived.Test.YtnaebafafhamjaaKZ9
import Derived.Test.YtnaebafafhamjaaKZ11
import Derived.Test.YtnaebafafhamjaaKZ13
set_option linter.unusedSimpArgs false
set_option linter.unusedVariables false
/- The reference's draws of terms: with operands; closed ones; spoiled ones. On shadows. -/
namespace Go.Proofs.Ytnaebafafhamjaa
open Go.RowKit Go.Proofs.Sh Go.Proofs.Grad
set_option maxRecDepth 100000
set_option maxHeartbeats 16000000
theorem fours {z : ByteArray} (h : z ∈ [nm 120, nm 121, nm 122, nm 102]) : ∃ y, z = nm y ∧ nmB y = true := by
  simp only [List.mem_cons, List.not_mem_nil, or_false] at h
  rcases h with rfl | rfl | rfl | rfl <;> exact ⟨_, rfl, by decide⟩
theorem l2Draw1 (bs : List Int) (hB : Bs bs) (p : Nat) (hp : p < 999980000) (l : List UInt8) (hl : l.length < 1000000) (hn : nms l) : ACl Try.prog 136 [.one (.ptr 2 0 0 0), .one (.sc (.string (bsOf l))), .one (.sc (.int .i64 1))] [(⟨2, 83, .mut, [[.sl (byR bs), .sc (.int .i64 ((p : Nat) : Int))]]⟩ : Blk)] (DrawsE bs p 4 4) := by
  have h1 := l2Atom bs hB p (by omega) l hl hn
  refine acl_in Try.func136 rfl isfn_136 (Nat.le_of_ble_eq_true rfl) (fun R hR => ?_); rw [Try.results136] at hR; refine wg_run ?_; (simp only [Try.f136, go_sem])
  ((first | refine kdq [0] ?_ (hc := h1) | refine kmq [0] ?_ (hc := h1) | refine ktq [0] ?_ (hc := h1)); rintro _ _ ⟨e, q, rfl, he, hc, hs, hq, rfl⟩; (simp only [go_sem]))
  exact hR _ (rat [] (hK := ⟨e, q, rfl, he, hc, hs, hq, rfl⟩))
theorem l2DrawN (bs : List Int) (hB : Bs bs) (d c n L : Nat) (hd : 1 ≤ d) (hd4 : d ≤ 8) (hc4 : 4 ≤ c) (hn4 : 4 ≤ n) (hnB : n ≤ 100000) (M : Nat) (hM : M + 40 + 3 * c ≤ 999980000) (hL : L < 900000)
    (ih : ∀ p, p < M + 40 + 3 * c → ∀ l : List UInt8, l.length ≤ L + 1 → nms l → ACl Try.prog 136 [.one (.ptr 2 0 0 0), .one (.sc (.string (bsOf l))), .one (.sc (.int .i64 (d : Nat)))] [(⟨2, 83, .mut, [[.sl (byR bs), .sc (.int .i64 ((p : Nat) : Int))]]⟩ : Blk)] (DrawsE bs p c n)) :
    ∀ p, p < M → ∀ l : List UInt8, l.length ≤ L → nms l → ACl Try.prog 136 [.one (.ptr 2 0 0 0), .one (.sc (.string (bsOf l))), .one (.sc (.int .i64 ((d + 1 : Nat) : Int)))] [(⟨2, 83, .mut, [[.sl (byR bs), .sc (.int .i64 ((p : Nat) : Int))]]⟩ : Blk)] (DrawsE bs p (40 + 3 * c) (40 + 3 * n)) := by
  intro p hp l hl hn
  have hd2 : decide (((d + 1 : Nat) : Int) < 2) = false := by simp; omega
  have hw : IntKind.i64.wrap (((d + 1 : Nat) : Int) - 1) = (d : Int) := by rw [IntWalk.i64_in _ (by omega)]; omega
  have h0 := pick bs hB p (by omega) 6 (by omega) (by omega)
  have h1 := l2Atom bs hB (p + 1) (by omega) l (by omega) hn
  have h2 := num bs hB (p + 1) (by omega) [6, 5, 7, 9, 13, 10, 11, 8, 12, 5, 6] (by decide) (by decide)
  have h3 := ofs bs hB (p + 2) (by omega) [nm 120, nm 121, nm 122, nm 102] (by decide) (by decide)
  have h4 := fun q (hq : q < 999990000) => num bs hB q (by omega) [2, 1, 3, 2] (by decide) (by decide)
  refine acl_in Try.func136 rfl isfn_136 (Nat.le_of_ble_eq_true rfl) (fun R hR => ?_); rw [Try.results136] at hR; refine wg_run ?_; (simp only [Try.f136, go_sem, hd2])
  repeat' (first | (first | (simp only [go_sem, hd2]) | (((first | apply sp1 | apply sp2 | apply sp3 | apply sp4 | apply sp5 | apply sp6 | apply sp7) <;> intro hb) <;> (simp only [go_sem, hb, hd2])) | ((first | apply wm_done | apply wt_done | apply wg_run | refine fk ?_ ?_) <;> (simp only [go_sem, hd2]))) | fail)
  ((first | refine kdq [0] ?_ (hc := h0) | refine kmq [0] ?_ (hc := h0) | refine ktq [0] ?_ (hc := h0)); rintro _ _ ⟨x, rfl, hx, hx1, rfl⟩; (simp only [go_sem]))
  repeat' (first | (first | (((first | apply sp1 | apply sp2 | apply sp3 | apply sp4 | apply sp5 | apply sp6 | apply sp7) <;> intro hb) <;> (simp only [go_sem, hb])) | ((first | apply wm_done | apply wt_done | apply wg_run | refine fk ?_ ?_) <;> (simp only [go_sem]))) | fail)
  · ((first | refine kdq [0] ?_ (hc := h1) | refine kmq [0] ?_ (hc := h1) | refine ktq [0] ?_ (hc := h1)); rintro _ _ ⟨e, q, rfl, he, hc, hs, hq, rfl⟩; (simp only [go_sem]))
    exact hR _ (rat [] (hK := ⟨e, q, rfl, he, hc, by omega, by omega, rfl⟩))
  · ((first | refine kdq [0] ?_ (hc := h2) | refine kmq [0] ?_ (hc := h2) | refine ktq [0] ?_ (hc := h2)); rintro _ _ ⟨z, rfl, hz, rfl⟩; (simp only [go_sem]))
    clear h0 h1 h2
    simp only [List.mem_cons, List.not_mem_nil, or_false] at hz
    have hz : z = 5 ∨ z = 13 ∨ z = 9 ∨ (z = 11 ∨ z = 12) ∨ (z = 6 ∨ z = 7 ∨ z = 8 ∨ z = 10) := by omega
    rcases hz with rfl | rfl | rfl | (rfl | rfl) | (rfl | rfl | rfl | rfl)
    · (simp only [go_sem])
      repeat' (first | (first | (((first | apply sp1 | apply sp2 | apply sp3 | apply sp4 | apply sp5 | apply sp6 | apply sp7) <;> intro hb) <;> (simp only [go_sem, hb])) | ((first | apply wm_done | apply wt_done | apply wg_run | refine fk ?_ ?_) <;> (simp only [go_sem]))) | fail)
      ((first | refine kdq [0] ?_ (hc := h3) | refine kmq [0] ?_ (hc := h3) | refine ktq [0] ?_ (hc := h3)); rintro _ _ ⟨y, rfl, hy, rfl⟩; (simp only [go_sem]))
      obtain ⟨y, rfl, hyb⟩ := fours hy
      have ha := l2Add l (by omega) hn y hyb
      repeat' (first | (first | (((first | apply sp1 | apply sp2 | apply sp3 | apply sp4 | apply sp5 | apply sp6 | apply sp7) <;> intro hb) <;> (simp only [go_sem, hb])) | ((first | apply wm_done | apply wt_done | apply wg_run | refine fk ?_ ?_) <;> (simp only [go_sem]))) | ((first | refine kdq [] ?_ (hc := ha) | refine kmq [] ?_ (hc := ha) | refine ktq [] ?_ (hc := ha)); rintro _ _ ⟨m, rfl, hm, hml, rfl⟩ <;> (simp only [go_sem])) | fail)
      ((first | refine kdq [0] ?_ (hc := h4 _ (by omega)) | refine kmq [0] ?_ (hc := h4 _ (by omega)) | refine ktq [0] ?_ (hc := h4 _ (by omega))); rintro _ _ ⟨z, rfl, hz, rfl⟩; (simp only [go_sem]))
      simp only [List.mem_cons, List.not_mem_nil, or_false] at hz
      obtain ⟨j, rfl, hj1, hj4⟩ : ∃ j : Nat, z = (j : Int) ∧ 1 ≤ j ∧ j ≤ 3 := ⟨z.toNat, by omega, by omega, by omega⟩
      ((first | refine kdq [0] ?_ (hc := l1Draw bs hB j hj1 (by omega) _ (by omega)) | refine kmq [0] ?_ (hc := l1Draw bs hB j hj1 (by omega) _ (by omega)) | refine ktq [0] ?_ (hc := l1Draw bs hB j hj1 (by omega) _ (by omega))); rintro _ _ ⟨x1, p1, rfl, hx1, hp1, rfl⟩; (simp only [go_sem]))
      repeat' (first | (first | (((first | apply sp1 | apply sp2 | apply sp3 | apply sp4 | apply sp5 | apply sp6 | apply sp7) <;> intro hb) <;> (simp only [go_sem, hb])) | ((first | apply wm_done | apply wt_done | apply wg_run | refine fk ?_ ?_) <;> (simp only [go_sem]))) | (first | refine cdq ?_ (hc := l2Kids _) | refine cmq ?_ (hc := l2Kids _) | refine ctq ?_ (hc := l2Kids _)); (simp only [go_sem]) | (first | (refine wl_next (wg_run ?_); (simp only [go_sem])) | refine wd_rounds 6 ?_) | ((first | refine mxq6 [0] ?_ | refine mxq5 [0] ?_ | refine mxq4 [0] ?_ | refine mxq3 [0] ?_ | refine mxq2 [0] ?_ | refine mxq1 [0] ?_ | refine mxq0 [0] ?_ | fail); (simp only [go_sem])))
      (simp only [go_sem, hw])
      ((first | refine kdq [0] ?_ (hc := ih _ (by omega) m (by omega) hm) | refine kmq [0] ?_ (hc := ih _ (by omega) m (by omega) hm) | refine ktq [0] ?_ (hc := ih _ (by omega) m (by omega) hm)); rintro _ _ ⟨a, p2, rfl, ha1, ha2, ha3, hp2, rfl⟩; (simp only [go_sem]))
      repeat' (first | (first | (((first | apply sp1 | apply sp2 | apply sp3 | apply sp4 | apply sp5 | apply sp6 | apply sp7) <;> intro hb) <;> (simp only [go_sem, hb])) | ((first | apply wm_done | apply wt_done | apply wg_run | refine fk ?_ ?_) <;> (simp only [go_sem]))) | (first | refine cdq ?_ (hc := l2Kids _) | refine cmq ?_ (hc := l2Kids _) | refine ctq ?_ (hc := l2Kids _)); (simp only [go_sem]) | (first | (refine wl_next (wg_run ?_); (simp only [go_sem])) | refine wd_rounds 6 ?_) | ((first | refine mxq6 [0] ?_ | refine mxq5 [0] ?_ | refine mxq4 [0] ?_ | refine mxq3 [0] ?_ | refine mxq2 [0] ?_ | refine mxq1 [0] ?_ | refine mxq0 [0] ?_ | fail); (simp only [go_sem])))
      have hxs := T.ty_size x1
      have hx9 := tys 3 x1 (by omega)
      exact hR _ (rat [] (hK := ⟨.lam y x1 a, p2, rfl, by simp only [E.wf, Bool.and_eq_true, decide_eq_true_eq]; exact ⟨hyb, by omega, ha1⟩, ha2, by simp [E.tm, Tm.size, Tm.sizes, noTy, Ty.size, Ty.sizes]; omega, by omega, rfl⟩))
    · (simp only [go_sem])
      repeat' (first | (first | (((first | apply sp1 | apply sp2 | apply sp3 | apply sp4 | apply sp5 | apply sp6 | apply sp7) <;> intro hb) <;> (simp only [go_sem, hb])) | ((first | apply wm_done | apply wt_done | apply wg_run | refine fk ?_ ?_) <;> (simp only [go_sem]))) | fail)
      ((first | refine kdq [0] ?_ (hc := h4 _ (by omega)) | refine kmq [0] ?_ (hc := h4 _ (by omega)) | refine ktq [0] ?_ (hc := h4 _ (by omega))); rintro _ _ ⟨z, rfl, hz, rfl⟩; (simp only [go_sem]))
      simp only [List.mem_cons, List.not_mem_nil, or_false] at hz
      obtain ⟨j, rfl, hj1, hj4⟩ : ∃ j : Nat, z = (j : Int) ∧ 1 ≤ j ∧ j ≤ 3 := ⟨z.toNat, by omega, by omega, by omega⟩
      ((first | refine kdq [0] ?_ (hc := l1Draw bs hB j hj1 (by omega) _ (by omega)) | refine kmq [0] ?_ (hc := l1Draw bs hB j hj1 (by omega) _ (by omega)) | refine ktq [0] ?_ (hc := l1Draw bs hB j hj1 (by omega) _ (by omega))); rintro _ _ ⟨x1, p1, rfl, hx1, hp1, rfl⟩; (simp only [go_sem]))
      repeat' (first | (first | (((first | apply sp1 | apply sp2 | apply sp3 | apply sp4 | apply sp5 | apply sp6 | apply sp7) <;> intro hb) <;> (simp only [go_sem, hb])) | ((first | apply wm_done | apply wt_done | apply wg_run | refine fk ?_ ?_) <;> (simp only [go_sem]))) | (first | refine cdq ?_ (hc := l2Kids _) | refine cmq ?_ (hc := l2Kids _) | refine ctq ?_ (hc := l2Kids _)); (simp only [go_sem]) | (first | (refine wl_next (wg_run ?_); (simp only [go_sem])) | refine wd_rounds 6 ?_) | ((first | refine mxq6 [0] ?_ | refine mxq5 [0] ?_ | refine mxq4 [0] ?_ | refine mxq3 [0] ?_ | refine mxq2 [0] ?_ | refine mxq1 [0] ?_ | refine mxq0 [0] ?_ | fail); (simp only [go_sem])))
      (simp only [go_sem, hw])
      ((first | refine kdq [0] ?_ (hc := ih _ (by omega) l (by omega) hn) | refine kmq [0] ?_ (hc := ih _ (by omega) l (by omega) hn) | refine ktq [0] ?_ (hc := ih _ (by omega) l (by omega) hn)); rintro _ _ ⟨a, p2, rfl, ha1, ha2, ha3, hp2, rfl⟩; (simp only [go_sem]))
      repeat' (first | (first | (((first | apply sp1 | apply sp2 | apply sp3 | apply sp4 | apply sp5 | apply sp6 | apply sp7) <;> intro hb) <;> (simp only [go_sem, hb])) | ((first | apply wm_done | apply wt_done | apply wg_run | refine fk ?_ ?_) <;> (simp only [go_sem]))) | (first | refine cdq ?_ (hc := l2Kids _) | refine cmq ?_ (hc := l2Kids _) | refine ctq ?_ (hc := l2Kids _)); (simp only [go_sem]) | (first | (refine wl_next (wg_run ?_); (simp only [go_sem])) | refine wd_rounds 6 ?_) | ((first | refine mxq6 [0] ?_ | refine mxq5 [0] ?_ | refine mxq4 [0] ?_ | refine mxq3 [0] ?_ | refine mxq2 [0] ?_ | refine mxq1 [0] ?_ | refine mxq0 [0] ?_ | fail); (simp only [go_sem])))
      have hxs := T.ty_size x1
      have hx9 := tys 3 x1 (by omega)
      exact hR _ (rat [] (hK := ⟨.asc x1 a, p2, rfl, by simp only [E.wf, Bool.and_eq_true, decide_eq_true_eq]; exact ⟨by omega, ha1⟩, ha2, by simp [E.tm, Tm.size, Tm.sizes, noTy, Ty.size, Ty.sizes]; omega, by omega, rfl⟩))
    · (simp only [go_sem])
      repeat' (first | (first | (((first | apply sp1 | apply sp2 | apply sp3 | apply sp4 | apply sp5 | apply sp6 | apply sp7) <;> intro hb) <;> (simp only [go_sem, hb])) | ((first | apply wm_done | apply wt_done | apply wg_run | refine fk ?_ ?_) <;> (simp only [go_sem]))) | (first | refine cdq ?_ (hc := l2Kids _) | refine cmq ?_ (hc := l2Kids _) | refine ctq ?_ (hc := l2Kids _)); (simp only [go_sem]) | (first | (refine wl_next (wg_run ?_); (simp only [go_sem])) | refine wd_rounds 6 ?_) | ((first | refine mxq6 [0] ?_ | refine mxq5 [0] ?_ | refine mxq4 [0] ?_ | refine mxq3 [0] ?_ | refine mxq2 [0] ?_ | refine mxq1 [0] ?_ | refine mxq0 [0] ?_ | fail); (simp only [go_sem])))
      (simp only [go_sem, hw])
      ((first | refine kdq [0] ?_ (hc := ih _ (by omega) l (by omega) hn) | refine kmq [0] ?_ (hc := ih _ (by omega) l (by omega) hn) | refine ktq [0] ?_ (hc := ih _ (by omega) l (by omega) hn)); rintro _ _ ⟨a, p2, rfl, ha1, ha2, ha3, hp2, rfl⟩; (simp only [go_sem]))
      repeat' (first | (first | (((first | apply sp1 | apply sp2 | apply sp3 | apply sp4 | apply sp5 | apply sp6 | apply sp7) <;> intro hb) <;> (simp only [go_sem, hb])) | ((first | apply wm_done | apply wt_done | apply wg_run | refine fk ?_ ?_) <;> (simp only [go_sem]))) | (first | refine cdq ?_ (hc := l2Kids _) | refine cmq ?_ (hc := l2Kids _) | refine ctq ?_ (hc := l2Kids _)); (simp only [go_sem]) | (first | (refine wl_next (wg_run ?_); (simp only [go_sem])) | refine wd_rounds 6 ?_) | ((first | refine mxq6 [0] ?_ | refine mxq5 [0] ?_ | refine mxq4 [0] ?_ | refine mxq3 [0] ?_ | refine mxq2 [0] ?_ | refine mxq1 [0] ?_ | refine mxq0 [0] ?_ | fail); (simp only [go_sem])))
      (simp only [go_sem, hw])
      ((first | refine kdq [0] ?_ (hc := ih _ (by omega) l (by omega) hn) | refine kmq [0] ?_ (hc := ih _ (by omega) l (by omega) hn) | refine ktq [0] ?_ (hc := ih _ (by omega) l (by omega) hn)); rintro _ _ ⟨b, p3, rfl, hb1, hb2, hb3, hp3, rfl⟩; (simp only [go_sem]))
      repeat' (first | (first | (((first | apply sp1 | apply sp2 | apply sp3 | apply sp4 | apply sp5 | apply sp6 | apply sp7) <;> intro hb) <;> (simp only [go_sem, hb])) | ((first | apply wm_done | apply wt_done | apply wg_run | refine fk ?_ ?_) <;> (simp only [go_sem]))) | (first | refine cdq ?_ (hc := l2Kids _) | refine cmq ?_ (hc := l2Kids _) | refine ctq ?_ (hc := l2Kids _)); (simp only [go_sem]) | (first | (refine wl_next (wg_run ?_); (simp only [go_sem])) | refine wd_rounds 6 ?_) | ((first | refine mxq6 [0] ?_ | refine mxq5 [0] ?_ | refine mxq4 [0] ?_ | refine mxq3 [0] ?_ | refine mxq2 [0] ?_ | refine mxq1 [0] ?_ | refine mxq0 [0] ?_ | fail); (simp only [go_sem])))
      (simp only [go_sem, hw])
      ((first | refine kdq [0] ?_ (hc := ih _ (by omega) l (by omega) hn) | refine kmq [0] ?_ (hc := ih _ (by omega) l (by omega) hn) | refine ktq [0] ?_ (hc := ih _ (by omega) l (by omega) hn)); rintro _ _ ⟨c, p4, rfl, hc1, hc2, hc3, hp4, rfl⟩; (simp only [go_sem]))
      repeat' (first | (first | (((first | apply sp1 | apply sp2 | apply sp3 | apply sp4 | apply sp5 | apply sp6 | apply sp7) <;> intro hb) <;> (simp only [go_sem, hb])) | ((first | apply wm_done | apply wt_done | apply wg_run | refine fk ?_ ?_) <;> (simp only [go_sem]))) | (first | refine cdq ?_ (hc := l2Kids _) | refine cmq ?_ (hc := l2Kids _) | refine ctq ?_ (hc := l2Kids _)); (simp only [go_sem]) | (first | (refine wl_next (wg_run ?_); (simp only [go_sem])) | refine wd_rounds 6 ?_) | ((first | refine mxq6 [0] ?_ | refine mxq5 [0] ?_ | refine mxq4 [0] ?_ | refine mxq3 [0] ?_ | refine mxq2 [0] ?_ | refine mxq1 [0] ?_ | refine mxq0 [0] ?_ | fail); (simp only [go_sem])))
      exact hR _ (rat [] (hK := ⟨.ite a b c, p4, rfl, by simp only [E.wf, Bool.and_eq_true]; exact ⟨ha1, hb1, hc1⟩, by simp only [E.noC, Bool.and_eq_true]; exact ⟨ha2, hb2, hc2⟩, by simp [E.tm, nd, Tm.size, Tm.sizes, noTy, Ty.size, Ty.sizes]; omega, by omega, rfl⟩))
    all_goals
      (simp only [go_sem])
      repeat' (first | (first | (((first | apply sp1 | apply sp2 | apply sp3 | apply sp4 | apply sp5 | apply sp6 | apply sp7) <;> intro hb) <;> (simp only [go_sem, hb])) | ((first | apply wm_done | apply wt_done | apply wg_run | refine fk ?_ ?_) <;> (simp only [go_sem]))) | (first | refine cdq ?_ (hc := l2Kids _) | refine cmq ?_ (hc := l2Kids _) | refine ctq ?_ (hc := l2Kids _)); (simp only [go_sem]) | (first | (refine wl_next (wg_run ?_); (simp only [go_sem])) | refine wd_rounds 6 ?_) | ((first | refine mxq6 [0] ?_ | refine mxq5 [0] ?_ | refine mxq4 [0] ?_ | refine mxq3 [0] ?_ | refine mxq2 [0] ?_ | refine mxq1 [0] ?_ | refine mxq0 [0] ?_ | fail); (simp only [go_sem])))
      (simp only [go_sem, hw])
      ((first | refine kdq [0] ?_ (hc := ih _ (by omega) l (by omega) hn) | refine kmq [0] ?_ (hc := ih _ (by omega) l (by omega) hn) | refine ktq [0] ?_ (hc := ih _ (by omega) l (by omega) hn)); rintro _ _ ⟨a, p2, rfl, ha1, ha2, ha3, hp2, rfl⟩; (simp only [go_sem]))
      repeat' (first | (first | (((first | apply sp1 | apply sp2 | apply sp3 | apply sp4 | apply sp5 | apply sp6 | apply sp7) <;> intro hb) <;> (simp only [go_sem, hb])) | ((first | apply wm_done | apply wt_done | apply wg_run | refine fk ?_ ?_) <;> (simp only [go_sem]))) | (first | refine cdq ?_ (hc := l2Kids _) | refine cmq ?_ (hc := l2Kids _) | refine ctq ?_ (hc := l2Kids _)); (simp only [go_sem]) | (first | (refine wl_next (wg_run ?_); (simp only [go_sem])) | refine wd_rounds 6 ?_) | ((first | refine mxq6 [0] ?_ | refine mxq5 [0] ?_ | refine mxq4 [0] ?_ | refine mxq3 [0] ?_ | refine mxq2 [0] ?_ | refine mxq1 [0] ?_ | refine mxq0 [0] ?_ | fail); (simp only [go_sem])))
      first
        | exact hR _ (rat [] (hK := ⟨.fst a, p2, rfl, ha1, ha2, by simp [E.tm, nd, Tm.size, Tm.sizes, noTy, Ty.size, Ty.sizes]; omega, by omega, rfl⟩))
        | exact hR _ (rat [] (hK := ⟨.snd a, p2, rfl, ha1, ha2, by simp [E.tm, nd, Tm.size, Tm.sizes, noTy, Ty.size, Ty.sizes]; omega, by omega, rfl⟩))
        | skip
    all_goals
      (simp only [go_sem, hw])
      ((first | refine kdq [0] ?_ (hc := ih _ (by omega) l (by omega) hn) | refine kmq [0] ?_ (hc := ih _ (by omega) l (by omega) hn) | refine ktq [0] ?_ (hc := ih _ (by omega) l (by omega) hn)); rintro _ _ ⟨b, p3, rfl, hb1, hb2, hb3, hp3, rfl⟩; (simp only [go_sem]))
      repeat' (first | (first | (((first | apply sp1 | apply sp2 | apply sp3 | apply sp4 | apply sp5 | apply sp6 | apply sp7) <;> intro hb) <;> (simp only [go_sem, hb])) | ((first | apply wm_done | apply wt_done | apply wg_run | refine fk ?_ ?_) <;> (simp only [go_sem]))) | (first | refine cdq ?_ (hc := l2Kids _) | refine cmq ?_ (hc := l2Kids _) | refine ctq ?_ (hc := l2Kids _)); (simp only [go_sem]) | (first | (refine wl_next (wg_run ?_); (simp only [go_sem])) | refine wd_rounds 6 ?_) | ((first | refine mxq6 [0] ?_ | refine mxq5 [0] ?_ | refine mxq4 [0] ?_ | refine mxq3 [0] ?_ | refine mxq2 [0] ?_ | refine mxq1 [0] ?_ | refine mxq0 [0] ?_ | fail); (simp only [go_sem])))
      first
        | exact hR _ (rat [] (hK := ⟨.app a b, p3, rfl, by simp only [E.wf, Bool.and_eq_true]; exact ⟨ha1, hb1⟩, by simp only [E.noC, Bool.and_eq_true]; exact ⟨ha2, hb2⟩, by simp [E.tm, nd, Tm.size, Tm.sizes, noTy, Ty.size, Ty.sizes]; omega, by omega, rfl⟩))
        | exact hR _ (rat [] (hK := ⟨.add a b, p3, rfl, by simp only [E.wf, Bool.and_eq_true]; exact ⟨ha1, hb1⟩, by simp only [E.noC, Bool.and_eq_true]; exact ⟨ha2, hb2⟩, by simp [E.tm, nd, Tm.size, Tm.sizes, noTy, Ty.size, Ty.sizes]; omega, by omega, rfl⟩))
        | exact hR _ (rat [] (hK := ⟨.less a b, p3, rfl, by simp only [E.wf, Bool.and_eq_true]; exact ⟨ha1, hb1⟩, by simp only [E.noC, Bool.and_eq_true]; exact ⟨ha2, hb2⟩, by simp [E.tm, nd, Tm.size, Tm.sizes, noTy, Ty.size, Ty.sizes]; omega, by omega, rfl⟩))
        | exact hR _ (rat [] (hK := ⟨.pair a b, p3, rfl, by simp only [E.wf, Bool.and_eq_true]; exact ⟨ha1, hb1⟩, by simp only [E.noC, Bool.and_eq_true]; exact ⟨ha2, hb2⟩, by simp [E.tm, nd, Tm.size, Tm.sizes, noTy, Ty.size, Ty.sizes]; omega, by omega, rfl⟩))
theorem l2Draw (bs : List Int) (hB : Bs bs) (d : Nat) (hd : 1 ≤ d) (hd5 : d ≤ 5) (p : Nat) (hp : p < 999900000) (l : List UInt8) (hl : l.length ≤ 10) (hn : nms l) : ACl Try.prog 136 [.one (.ptr 2 0 0 0), .one (.sc (.string (bsOf l))), .one (.sc (.int .i64 (d : Nat)))] [(⟨2, 83, .mut, [[.sl (byR bs), .sc (.int .i64 ((p : Nat) : Int))]]⟩ : Blk)] (DrawsE bs p 2000 2000) := by
  have h1 : ∀ p, p < 999979000 → ∀ l : List UInt8, l.length ≤ 14 → nms l → ACl Try.prog 136 [.one (.ptr 2 0 0 0), .one (.sc (.string (bsOf l))), .one (.sc (.int .i64 ((1 : Nat) : Int)))] [(⟨2, 83, .mut, [[.sl (byR bs), .sc (.int .i64 ((p : Nat) : Int))]]⟩ : Blk)] (DrawsE bs p 4 4) := fun p hp l hl hn => l2Draw1 bs hB p (by omega) l (by omega) hn
  have h2 := l2DrawN bs hB 1 4 4 13 (by omega) (by omega) (by omega) (by omega) (by omega) 999970000 (by omega) (by omega) (fun p hp => h1 p (by omega))
  have h3 := l2DrawN bs hB 2 52 52 12 (by omega) (by omega) (by omega) (by omega) (by omega) 999960000 (by omega) (by omega) (fun p hp => h2 p (by omega))
  have h4 := l2DrawN bs hB 3 196 196 11 (by omega) (by omega) (by omega) (by omega) (by omega) 999950000 (by omega) (by omega) (fun p hp => h3 p (by omega))
  have h5 := l2DrawN bs hB 4 628 628 10 (by omega) (by omega) (by omega) (by omega) (by omega) 999940000 (by omega) (by omega) (fun p hp => h4 p (by omega))
  obtain rfl | rfl | rfl | rfl | rfl : d = 1 ∨ d = 2 ∨ d = 3 ∨ d = 4 ∨ d = 5 := by omega
  · exact (h1 p (by omega) l (by omega) hn).mono fun r H' h => h.mono (by omega) (by omega)
  · exact (h2 p (by omega) l (by omega) hn).mono fun r H' h => h.mono (by omega) (by omega)
  · exact (h3 p (by omega) l (by omega) hn).mono fun r H' h => h.mono (by omega) (by omega)
  · exact (h4 p (by omega) l (by omega) hn).mono fun r H' h => h.mono (by omega) (by omega)
  · exact (h5 p (by omega) l (by omega) hn).mono fun r H' h => h.mono (by omega) (by omega)
theorem l2Closed (bs : List Int) (hB : Bs bs) (p : Nat) (hp : p < 999800000) : ACl Try.prog 83 [.one (.ptr 2 0 0 0)] [(⟨2, 83, .mut, [[.sl (byR bs), .sc (.int .i64 ((p : Nat) : Int))]]⟩ : Blk)] (DrawsE bs p 2010 2000) := by
  have h1 := num bs hB p (by omega) [4, 3, 5, 4, 2] (by decide) (by decide)
  refine acl_in Try.func83 rfl isfn_83 (Nat.le_of_ble_eq_true rfl) (fun R hR => ?_); rw [Try.results83] at hR; refine wg_run ?_; (simp only [Try.f83, go_sem])
  ((first | refine kdq [0] ?_ (hc := h1) | refine kmq [0] ?_ (hc := h1) | refine ktq [0] ?_ (hc := h1)); rintro _ _ ⟨z, rfl, hz, rfl⟩; (simp only [go_sem]))
  simp only [List.mem_cons, List.not_mem_nil, or_false] at hz
  obtain ⟨d, rfl, hd1, hd4⟩ : ∃ d : Nat, z = (d : Int) ∧ 1 ≤ d ∧ d ≤ 5 := ⟨z.toNat, by omega, by omega, by omega⟩
  ((first | refine kdq [0] ?_ (hc := l2Draw bs hB d hd1 hd4 (p + 1) (by omega) [] (by simp) (by intro b hb; simp at hb)) | refine kmq [0] ?_ (hc := l2Draw bs hB d hd1 hd4 (p + 1) (by omega) [] (by simp) (by intro b hb; simp at hb)) | refine ktq [0] ?_ (hc := l2Draw bs hB d hd1 hd4 (p + 1) (by omega) [] (by simp) (by intro b hb; simp at hb))); rintro _ _ ⟨e, q, rfl, he, hc, hs, hq, rfl⟩; (simp only [go_sem]))
  have hv := sTermV e.tm (by omega)
  repeat' (first | (first | (((first | apply sp1 | apply sp2 | apply sp3 | apply sp4 | apply sp5 | apply sp6 | apply sp7) <;> intro hb) <;> (simp only [go_sem, hb])) | ((first | apply wm_done | apply wt_done | apply wg_run | refine fk ?_ ?_) <;> (simp only [go_sem]))) | (first | refine cdq ?_ (hc := hv) | refine cmq ?_ (hc := hv) | refine ctq ?_ (hc := hv)); (simp only [go_sem]) | (first | refine cdq ?_ (hc := l2NumS _) | refine cmq ?_ (hc := l2NumS _) | refine ctq ?_ (hc := l2NumS _)); (simp only [go_sem]) | fail)
  · exact hR _ (rat [] (hK := ⟨e, q, rfl, he, hc, hs, by omega, rfl⟩))
  · exact hR _ (rat [] (hK := ⟨.num 3, q, rfl, by decide, rfl, by simp [E.tm, Tm.size, Tm.sizes, noTy, Ty.size, Ty.sizes], by omega, rfl⟩))
/-- a draw of some term, not too large -/
def DrawsX (bs : List Int) (p c n : Nat) (r : AV) (H' : List Blk) : Prop := ∃ (x : Tm) (p' : Nat), r = .agg (teC x) ∧ x.size ≤ n ∧ p' ≤ p + c ∧ H' = [(⟨2, 83, .mut, [[.sl (byR bs), .sc (.int .i64 ((p' : Nat) : Int))]]⟩ : Blk)]
theorem l2Mutate (bs : List Int) (hB : Bs bs) (p : Nat) (hp : p < 999800000) (t : Tm) (ht : t.size < 10000000) : ACl Try.prog 32 [.one (.ptr 2 0 0 0), .agg (teC t)] [(⟨2, 83, .mut, [[.sl (byR bs), .sc (.int .i64 ((p : Nat) : Int))]]⟩ : Blk)] (DrawsX bs p 40 (t.size + 100)) := by
  have hc := l2Copy 274877906944 (by omega) t (by omega)
  have h0 := pick bs hB p (by omega) 50 (by omega) (by omega)
  have h1 := num bs hB (p + 1) (by omega) [0, 15, 1, 6, 14, -1] (by decide) (by decide)
  have h2 := ofs bs hB (p + 1) (by omega) [nm 88, ⟨#[120, 121]⟩, ByteArray.empty, nm 120] (by decide) (by decide)
  have h3 := num bs hB (p + 1) (by omega) [1000, -1, 9223372036854775807, 5] (by decide) (by decide)
  have h4 := l1Type bs hB (p + 1) (by omega)
  have e : t.size = 1 + (t.type.size + t.frm.size + Tm.sizes t.kids) := by cases t; rfl
  have et := teC_eq t
  refine acl_in Try.func32 rfl isfn_32 (Nat.le_of_ble_eq_true rfl) (fun R hR => ?_); rw [Try.results32] at hR; refine wg_run ?_; (simp only [Try.f32, go_sem])
  repeat' (first | (first | (((first | apply sp1 | apply sp2 | apply sp3 | apply sp4 | apply sp5 | apply sp6 | apply sp7) <;> intro hb) <;> (simp only [go_sem, hb])) | ((first | apply wm_done | apply wt_done | apply wg_run | refine fk ?_ ?_) <;> (simp only [go_sem]))) | (first | refine cdq ?_ (hc := hc) | refine cmq ?_ (hc := hc) | refine ctq ?_ (hc := hc)); (simp only [go_sem]) | fail)
  ((first | refine kdq [0] ?_ (hc := h0) | refine kmq [0] ?_ (hc := h0) | refine ktq [0] ?_ (hc := h0)); rintro _ _ ⟨x, rfl, hx, hx1, rfl⟩; (simp only [go_sem]))
  repeat' (first | (first | (simp only [go_sem, et]) | (((first | apply sp1 | apply sp2 | apply sp3 | apply sp4 | apply sp5 | apply sp6 | apply sp7) <;> intro hb) <;> (simp only [go_sem, hb, et])) | ((first | apply wm_done | apply wt_done | apply wg_run | refine fk ?_ ?_) <;> (simp only [go_sem, et]))) | fail)
  · ((first | refine kdq [0] ?_ (hc := h1) | refine kmq [0] ?_ (hc := h1) | refine ktq [0] ?_ (hc := h1)); rintro _ _ ⟨z, rfl, hz, rfl⟩; (simp only [go_sem]))
    repeat' (first | (first | (simp only [go_sem, et]) | (((first | apply sp1 | apply sp2 | apply sp3 | apply sp4 | apply sp5 | apply sp6 | apply sp7) <;> intro hb) <;> (simp only [go_sem, hb, et])) | ((first | apply wm_done | apply wt_done | apply wg_run | refine fk ?_ ?_) <;> (simp only [go_sem, et]))) | ((first | refine mxq6 [] ?_ | refine mxq5 [] ?_ | refine mxq4 [] ?_ | refine mxq3 [] ?_ | refine mxq2 [] ?_ | refine mxq1 [] ?_ | refine mxq0 [] ?_ | fail); (simp only [go_sem, et])) | fail)
    exact hR _ (rat [] (hK := ⟨.mk z t.name t.num t.type t.frm t.label t.kids, p + 2, by rw [teC_eq]; rfl, by simp only [Tm.size]; omega, by omega, rfl⟩))
  · ((first | refine kdq [0] ?_ (hc := h2) | refine kmq [0] ?_ (hc := h2) | refine ktq [0] ?_ (hc := h2)); rintro _ _ ⟨z, rfl, hz, rfl⟩; (simp only [go_sem]))
    repeat' (first | (first | (simp only [go_sem, et]) | (((first | apply sp1 | apply sp2 | apply sp3 | apply sp4 | apply sp5 | apply sp6 | apply sp7) <;> intro hb) <;> (simp only [go_sem, hb, et])) | ((first | apply wm_done | apply wt_done | apply wg_run | refine fk ?_ ?_) <;> (simp only [go_sem, et]))) | ((first | refine mxq6 [] ?_ | refine mxq5 [] ?_ | refine mxq4 [] ?_ | refine mxq3 [] ?_ | refine mxq2 [] ?_ | refine mxq1 [] ?_ | refine mxq0 [] ?_ | fail); (simp only [go_sem, et])) | fail)
    exact hR _ (rat [] (hK := ⟨.mk t.kind z t.num t.type t.frm t.label t.kids, p + 2, by rw [teC_eq]; rfl, by simp only [Tm.size]; omega, by omega, rfl⟩))
  · ((first | refine kdq [0] ?_ (hc := h3) | refine kmq [0] ?_ (hc := h3) | refine ktq [0] ?_ (hc := h3)); rintro _ _ ⟨z, rfl, hz, rfl⟩; (simp only [go_sem]))
    repeat' (first | (first | (simp only [go_sem, et]) | (((first | apply sp1 | apply sp2 | apply sp3 | apply sp4 | apply sp5 | apply sp6 | apply sp7) <;> intro hb) <;> (simp only [go_sem, hb, et])) | ((first | apply wm_done | apply wt_done | apply wg_run | refine fk ?_ ?_) <;> (simp only [go_sem, et]))) | ((first | refine mxq6 [] ?_ | refine mxq5 [] ?_ | refine mxq4 [] ?_ | refine mxq3 [] ?_ | refine mxq2 [] ?_ | refine mxq1 [] ?_ | refine mxq0 [] ?_ | fail); (simp only [go_sem, et])) | fail)
    exact hR _ (rat [] (hK := ⟨.mk t.kind t.name z t.type t.frm t.label t.kids, p + 2, by rw [teC_eq]; rfl, by simp only [Tm.size]; omega, by omega, rfl⟩))
  · ((first | refine kdq [0] ?_ (hc := h4) | refine kmq [0] ?_ (hc := h4) | refine ktq [0] ?_ (hc := h4)); rintro _ _ ⟨x1, q, rfl, hx1, hq, rfl⟩; (simp only [go_sem]))
    have hx9 := tys 4 x1 hx1
    have hm := l1Mutate bs hB q (by omega) x1.ty (by rw [T.ty_size]; omega)
    ((first | refine kdq [0] ?_ (hc := hm) | refine kmq [0] ?_ (hc := hm) | refine ktq [0] ?_ (hc := hm)); rintro _ _ ⟨y, q2, rfl, hy, hq2, rfl⟩; (simp only [go_sem]))
    rw [T.ty_size] at hy
    repeat' (first | (first | (simp only [go_sem, et]) | (((first | apply sp1 | apply sp2 | apply sp3 | apply sp4 | apply sp5 | apply sp6 | apply sp7) <;> intro hb) <;> (simp only [go_sem, hb, et])) | ((first | apply wm_done | apply wt_done | apply wg_run | refine fk ?_ ?_) <;> (simp only [go_sem, et]))) | ((first | refine mxq6 [] ?_ | refine mxq5 [] ?_ | refine mxq4 [] ?_ | refine mxq3 [] ?_ | refine mxq2 [] ?_ | refine mxq1 [] ?_ | refine mxq0 [] ?_ | fail); (simp only [go_sem, et])) | fail)
    exact hR _ (rat [] (hK := ⟨.mk t.kind t.name t.num y t.frm t.label t.kids, q2, by rw [teC_eq]; rfl, by simp only [Tm.size]; omega, by omega, rfl⟩))
  · exact hR _ (rat [] (hK := ⟨.mk t.kind t.name t.num t.type t.frm 1 t.kids, p + 1, by rw [teC_eq]; rfl, by simp only [Tm.size]; omega, by omega, rfl⟩))
  · repeat' (first | (first | (simp only [go_sem, et]) | (((first | apply sp1 | apply sp2 | apply sp3 | apply sp4 | apply sp5 | apply sp6 | apply sp7) <;> intro hb) <;> (simp only [go_sem, hb, et])) | ((first | apply wm_done | apply wt_done | apply wg_run | refine fk ?_ ?_) <;> (simp only [go_sem, et]))) | (first | refine cdq ?_ (hc := l1Any) | refine cmq ?_ (hc := l1Any) | refine ctq ?_ (hc := l1Any)); (simp only [go_sem]) | fail)
    exact hR _ (rat [] (hK := ⟨.mk t.kind t.name t.num t.type (.mk 1 []) t.label t.kids, p + 1, by rw [teC_eq]; rfl, by simp only [Tm.size, Ty.size, Ty.sizes]; omega, by omega, rfl⟩))
  · exact hR _ (rat [] (hK := ⟨t, p + 1, by rw [teC_eq], by omega, by omega, rfl⟩))
end Go.Proofs.Ytnaebafafhamjaa
/- Steps of terms with casts. No program, no world. -/
namespace Go.Proofs.Grad
/-- v in place of x -/
def E.subst : E → UInt8 → E → E
  | .var y, x, v => match y == x with | true => v | false => .var y
  | .lam y t a, x, v => match y == x with | true => .lam y t a | false => .lam y t (a.subst x v)
  | .num n, x, v => .num n
  | .tru, x, v => .tru
  | .fls, x, v => .fls
  | .app a b, x, v => .app (a.subst x v) (b.subst x v)
  | .add a b, x, v => .add (a.subst x v) (b.subst x v)
  | .less a b, x, v => .less (a.subst x v) (b.subst x v)
  | .ite a b c, x, v => .ite (a.subst x v) (b.subst x v) (c.subst x v)
  | .pair a b, x, v => .pair (a.subst x v) (b.subst x v)
  | .fst a, x, v => .fst (a.subst x v)
  | .snd a, x, v => .snd (a.subst x v)
  | .asc t a, x, v => .asc t (a.subst x v)
  | .cast s t l a, x, v => .cast s t l (a.subst x v)
def T.isFn : T → Bool | .fn _ _ => true | _ => false
def T.isPr : T → Bool | .pr _ _ => true | _ => false
/-- a ground type -/
def T.isG : T → Bool | .any => false | .fn .any .any => true | .fn _ _ => false | .pr .any .any => true | .pr _ _ => false | _ => true
def proxyT (s t : T) : Bool := (s.isFn && t.isFn) || (s.isPr && t.isPr)
def injT (s t : T) : Bool := (t.ty.kind == 1) && s.isG
def E.val : E → Bool
  | .num _ | .tru | .fls | .lam _ _ _ => true
  | .pair a b => a.val && b.val
  | .cast s t _ a => (proxyT s t || injT s t) && a.val
  | _ => false
/-- what a step makes -/
inductive SR where
  | took (e : E) | blame (l : Int) | stuck
def SR.code : SR → Int | .took _ => 1 | .blame _ => 2 | .stuck => 3
def SR.lab : SR → Int | .blame l => l | _ => 0
def SR.map (f : E → E) : SR → SR | .took e => .took (f e) | .blame l => .blame l | .stuck => .stuck
def ruleApp : E → E → SR
  | .lam x _ b, v => .took (b.subst x v)
  | .cast (.fn s1 s2) (.fn t1 t2) l f, v => .took (.cast s2 t2 l (.app f (.cast t1 s1 (-l) v)))
  | _, _ => .stuck
def ruleAdd : E → E → SR
  | .num n, .num m => .took (.num ((n + m).tmod 1000))
  | _, _ => .stuck
def ruleLess : E → E → SR
  | .num n, .num m => match decide (n < m) with | true => .took .tru | false => .took .fls
  | _, _ => .stuck
def ruleIte : E → E → E → SR
  | .tru, b, _ => .took b
  | .fls, _, c => .took c
  | _, _, _ => .stuck
def ruleFst : E → SR
  | .pair a _ => .took a
  | .cast (.pr s1 _) (.pr t1 _) l v => .took (.cast s1 t1 l (.fst v))
  | _ => .stuck
def ruleSnd : E → SR
  | .pair _ b => .took b
  | .cast (.pr _ s2) (.pr _ t2) l v => .took (.cast s2 t2 l (.snd v))
  | _ => .stuck
/-- the type g, of which there is an injection below, and the type t: the same, or not -/
def ruleOut (t : T) (l : Int) : E → SR
  | .cast s' t' _ w => match injT s' t' with | true => (match s'.ty.kind == t.ty.kind with | true => .took w | false => .blame l) | false => .stuck
  | _ => .stuck
def ruleCast (s t : T) (l : Int) (v : E) : SR :=
  match s.ty.kind == t.ty.kind with
  | true => .took v
  | false => match t.ty.kind == 1 with
    | true => .took (.cast s.ground .any l (.cast s s.ground l v))
    | false => match t.isG with
      | false => .took (.cast t.ground t l (.cast s t.ground l v))
      | true => ruleOut t l v
/-- a step of a term with casts that is no value -/
def E.step : E → SR
  | .app a b => match a.val with | false => a.step.map (.app · b) | true => (match b.val with | false => b.step.map (.app a ·) | true => ruleApp a b)
  | .add a b => match a.val with | false => a.step.map (.add · b) | true => (match b.val with | false => b.step.map (.add a ·) | true => ruleAdd a b)
  | .less a b => match a.val with | false => a.step.map (.less · b) | true => (match b.val with | false => b.step.map (.less a ·) | true => ruleLess a b)
  | .ite a b c => match a.val with | false => a.step.map (.ite · b c) | true => ruleIte a b c
  | .pair a b => match a.val with | false => a.step.map (.pair · b) | true => (match b.val with | false => b.step.map (.pair a ·) | true => .stuck)
  | .fst a => match a.val with | false => a.step.map .fst | true => ruleFst a
  | .snd a => match a.val with | false => a.step.map .snd | true => ruleSnd a
  | .cast s t l a => match a.val with | false => a.step.map (.cast s t l) | true => ruleCast s t l a
  | _ => .stuck
/-! what steps keep -/
theorem T.cons_comm (a : T) : ∀ b : T, a.cons b = b.cons a := by
  induction a with
  | fn a1 a2 ih1 ih2 | pr a1 a2 ih1 ih2 => intro b; cases b <;> simp [T.cons, *]
  | _ => intro b; cases b <;> rfl
def SR.ok : SR → Bool | .took e => e.wf && e.noA | .blame l => Grad.lab l | .stuck => true
theorem cons_kind {s t : T} (h1 : (s.ty.kind == t.ty.kind) = false) (h2 : (t.ty.kind == 1) = false) (hc : s.cons t = true) : s = .any := by
  cases s <;> cases t <;> simp_all [T.ty, Ty.kind, T.cons]
/-- the zero term -/
def tm0 : Tm := .mk 0 ByteArray.empty 0 noTy noTy 0 []
def SR.tm : SR → Tm | .took e => e.tm | _ => tm0
end Go.Proofs.Grad
/- Typing of terms without casts: contexts and rules. No program, no world. -/
namespace Go.Proofs.Grad
abbrev Ctx := List (UInt8 × T)
/-- the last binding of a name -/
def look1 : Ctx → UInt8 → Option T
  | [], _ => none
  | (y, t) :: l, x => match look1 l x with | some u => some u | none => match y == x with | true => some t | false => none
def T.meet : T → T → T
  | .any, b => b
  | .fn a b, .fn c d => .fn (a.meet c) (b.meet d)
  | .pr a b, .pr c d => .pr (a.meet c) (b.meet d)
  | a, _ => a
theorem T.meet_any (a : T) : a.meet .any = a := by cases a <;> rfl
theorem T.meet_depth (a : T) : ∀ b : T, (a.meet b).depth ≤ max a.depth b.depth := by
  induction a with
  | fn a1 a2 ih1 ih2 | pr a1 a2 ih1 ih2 =>
    intro b
    cases b with
    | fn b1 b2 | pr b1 b2 => have h1 := ih1 b1; have h2 := ih2 b2; simp only [T.meet, T.depth] at *; omega
    | _ => simp only [T.meet, T.depth]; omega
  | any => intro b; simp only [T.meet]; omega
  | _ => intro b; cases b <;> simp only [T.meet, T.depth] <;> omega
def T.mfn : T → Option (T × T) | .any => some (.any, .any) | .fn a b => some (a, b) | _ => none
def T.mpr : T → Option (T × T) | .any => some (.any, .any) | .pr a b => some (a, b) | _ => none
def twoF (a b : T) : Option T := match decide ((T.fn a b).depth ≤ 4) with | true => some (.fn a b) | false => none
def twoP (a b : T) : Option T := match decide ((T.pr a b).depth ≤ 4) with | true => some (.pr a b) | false => none
def rApp (s u : T) : Option T := match s.mfn with | some (p, q) => (match u.cons p with | true => some q | false => none) | none => none
def rNum (r s u : T) : Option T := match s.cons .int with | true => (match u.cons .int with | true => some r | false => none) | false => none
def rIte (s u v : T) : Option T := match u.cons v with | true => (match s.cons .bool with | true => some (u.meet v) | false => none) | false => none
def rFst (s : T) : Option T := match s.mpr with | some (p, _) => some p | none => none
def rSnd (s : T) : Option T := match s.mpr with | some (_, q) => some q | none => none
def rAsc (t s : T) : Option T := match s.cons t with | true => some t | false => none
/-- the type of a term without casts -/
def E.rty : E → Ctx → Option T
  | .var x, Γ => look1 Γ x
  | .num _, _ => some .int
  | .tru, _ => some .bool
  | .fls, _ => some .bool
  | .lam x t a, Γ => match a.rty (Γ ++ [(x, t)]) with | some u => twoF t u | none => none
  | .app a b, Γ => match a.rty Γ with | some s => (match b.rty Γ with | some u => rApp s u | none => none) | none => none
  | .add a b, Γ => match a.rty Γ with | some s => (match b.rty Γ with | some u => rNum .int s u | none => none) | none => none
  | .less a b, Γ => match a.rty Γ with | some s => (match b.rty Γ with | some u => rNum .bool s u | none => none) | none => none
  | .ite a b c, Γ => match a.rty Γ with | some s => (match b.rty Γ with | some u => (match c.rty Γ with | some v => rIte s u v | none => none) | none => none) | none => none
  | .pair a b, Γ => match a.rty Γ with | some s => (match b.rty Γ with | some u => twoP s u | none => none) | none => none
  | .fst a, Γ => match a.rty Γ with | some s => rFst s | none => none
  | .snd a, Γ => match a.rty Γ with | some s => rSnd s | none => none
  | .asc t a, Γ => match a.rty Γ with | some s => rAsc t s | none => none
  | .cast _ _ _ _, _ => none
def ctxOk (Γ : Ctx) : Prop := ∀ b ∈ Γ, b.2.depth ≤ 4
theorem ctxOk_nil : ctxOk [] := by intro b h; simp at h
theorem ctxOk_snoc {Γ : Ctx} {x : UInt8} {t : T} (h : ctxOk Γ) (ht : t.depth ≤ 4) : ctxOk (Γ ++ [(x, t)]) := by
  intro b hb
  rcases List.mem_append.1 hb with hb | hb
  · exact h b hb
  · simp at hb; subst hb; exact ht
theorem look1_depth {Γ : Ctx} {x : UInt8} {t : T} (h : ctxOk Γ) (hl : look1 Γ x = some t) : t.depth ≤ 4 := by
  induction Γ with
  | nil => simp [look1] at hl
  | cons b Γ ih =>
    obtain ⟨y, u⟩ := b
    simp only [look1] at hl
    split at hl
    · rename_i u' hu
      obtain rfl := Option.some.inj hl
      exact ih (fun b hb => h b (by simp [hb])) hu
    · split at hl
      · obtain rfl := Option.some.inj hl; exact h (y, u) (by simp)
      · simp at hl
theorem T.mfn_depth {s p q : T} (h : s.mfn = some (p, q)) (hs : s.depth ≤ 4) : p.depth ≤ 4 ∧ q.depth ≤ 4 := by
  cases s <;> simp only [T.mfn, Option.some.injEq, Prod.mk.injEq, reduceCtorEq] at h
  · obtain ⟨rfl, rfl⟩ := h; decide
  · obtain ⟨rfl, rfl⟩ := h; simp only [T.depth] at hs; omega
theorem T.mpr_depth {s p q : T} (h : s.mpr = some (p, q)) (hs : s.depth ≤ 4) : p.depth ≤ 4 ∧ q.depth ≤ 4 := by
  cases s <;> simp only [T.mpr, Option.some.injEq, Prod.mk.injEq, reduceCtorEq] at h
  · obtain ⟨rfl, rfl⟩ := h; decide
  · obtain ⟨rfl, rfl⟩ := h; simp only [T.depth] at hs; omega
theorem twoF_depth {a b t : T} (h : twoF a b = some t) : t.depth ≤ 4 := by
  unfold twoF at h; split at h
  · rename_i hd; obtain rfl := Option.some.inj h; exact of_decide_eq_true hd
  · cases h
theorem twoP_depth {a b t : T} (h : twoP a b = some t) : t.depth ≤ 4 := by
  unfold twoP at h; split at h
  · rename_i hd; obtain rfl := Option.some.inj h; exact of_decide_eq_true hd
  · cases h
theorem rApp_depth {s u t : T} (h : rApp s u = some t) (hs : s.depth ≤ 4) : t.depth ≤ 4 := by
  unfold rApp at h; split at h
  · rename_i p q hm
    split at h
    · obtain rfl := Option.some.inj h; exact (T.mfn_depth hm hs).2
    · cases h
  · cases h
theorem rNum_depth {r s u t : T} (h : rNum r s u = some t) (hr : r.depth ≤ 4) : t.depth ≤ 4 := by
  unfold rNum at h; split at h
  · split at h
    · obtain rfl := Option.some.inj h; exact hr
    · cases h
  · cases h
theorem rIte_depth {s u v t : T} (h : rIte s u v = some t) (hu : u.depth ≤ 4) (hv : v.depth ≤ 4) : t.depth ≤ 4 := by
  unfold rIte at h; split at h
  · split at h
    · obtain rfl := Option.some.inj h; have := T.meet_depth u v; omega
    · cases h
  · cases h
theorem rFst_depth {s t : T} (h : rFst s = some t) (hs : s.depth ≤ 4) : t.depth ≤ 4 := by
  unfold rFst at h; split at h
  · rename_i hm; obtain rfl := Option.some.inj h; exact (T.mpr_depth hm hs).1
  · cases h
theorem rSnd_depth {s t : T} (h : rSnd s = some t) (hs : s.depth ≤ 4) : t.depth ≤ 4 := by
  unfold rSnd at h; split at h
  · rename_i hm; obtain rfl := Option.some.inj h; exact (T.mpr_depth hm hs).2
  · cases h
theorem rAsc_depth {s u t : T} (h : rAsc u s = some t) (hu : u.depth ≤ 4) : t.depth ≤ 4 := by
  unfold rAsc at h; split at h
  · obtain rfl := Option.some.inj h; exact hu
  · cases h
theorem E.rty_depth (e : E) : ∀ (Γ : Ctx) (t : T), e.wf = true → ctxOk Γ → e.rty Γ = some t → t.depth ≤ 4 := by
  induction e with
  | var x => intro Γ t hw hc h; exact look1_depth hc h
  | num _ | tru | fls => intro Γ t hw hc h; simp only [E.rty, Option.some.injEq] at h; subst h; decide
  | lam x u a ih =>
    intro Γ t hw hc h
    simp only [E.rty] at h
    split at h
    · exact twoF_depth h
    · cases h
  | app a b iha ihb =>
    intro Γ t hw hc h
    simp only [E.wf, Bool.and_eq_true] at hw
    simp only [E.rty] at h
    split at h
    · rename_i s hs
      split at h
      · exact rApp_depth h (iha _ _ hw.1 hc hs)
      · cases h
    · cases h
  | add a b iha ihb | less a b iha ihb =>
    intro Γ t hw hc h
    simp only [E.rty] at h
    split at h
    · split at h
      · exact rNum_depth h (by decide)
      · cases h
    · cases h
  | ite a b c iha ihb ihc =>
    intro Γ t hw hc h
    simp only [E.wf, Bool.and_eq_true] at hw
    simp only [E.rty] at h
    split at h
    · split at h
      · rename_i u hu
        split at h
        · rename_i v hv
          exact rIte_depth h (ihb _ _ hw.2.1 hc hu) (ihc _ _ hw.2.2 hc hv)
        · cases h
      · cases h
    · cases h
  | pair a b iha ihb =>
    intro Γ t hw hc h
    simp only [E.rty] at h
    split at h
    · split at h
      · exact twoP_depth h
      · cases h
    · cases h
  | fst a ih =>
    intro Γ t hw hc h
    simp only [E.wf] at hw
    simp only [E.rty] at h
    split at h
    · rename_i s hs; exact rFst_depth h (ih _ _ hw hc hs)
    · cases h
  | snd a ih =>
    intro Γ t hw hc h
    simp only [E.wf] at hw
    simp only [E.rty] at h
    split at h
    · rename_i s hs; exact rSnd_depth h (ih _ _ hw hc hs)
    · cases h
  | asc u a ih =>
    intro Γ t hw hc h
    simp only [E.wf, Bool.and_eq_true, decide_eq_true_eq] at hw
    simp only [E.rty] at h
    split at h
    · exact rAsc_depth h hw.1
    · cases h
  | cast _ _ _ _ _ => intro Γ t hw hc h; simp [E.rty] at h
end Go.Proofs.Grad
/- Contexts as shadows. -/
namespace Go.Proofs.Sh
open Go.RowKit Go.Proofs.Grad
def bdC (b : UInt8 × T) : List C := .sc (.string (nm b.1)) :: tyC b.2.ty
def bdR : Ctx → List (List C)
  | [] => []
  | b :: l => bdC b :: bdR l
def bd (l : Ctx) (k : Nat) : UInt8 × T := l.getD k (0, .any)
theorem bdC_eq (b : UInt8 × T) : bdC b = [.sc (.string (nm b.1)), .sc (.int .i64 b.2.ty.kind), .sl (tyR b.2.ty.kids)] := by rw [bdC, tyC_eq]
@[go_sem] theorem bdC_length (b : UInt8 × T) : (bdC b).length = 3 := by rw [bdC_eq]; rfl
@[go_sem] theorem bdC_take (b : UInt8 × T) : (bdC b).take 3 = bdC b := by rw [bdC_eq]; rfl
@[go_sem] theorem bdC_drop (b : UInt8 × T) : (bdC b).drop 0 = bdC b := rfl
@[go_sem] theorem bdC_treeL (b : UInt8 × T) : treeL (bdC b) = true := by rw [bdC_eq]; rfl
@[go_sem] theorem bdC_0 (b : UInt8 × T) : (bdC b)[0]? = some (.sc (.string (nm b.1))) := by rw [bdC_eq]; rfl
@[go_sem] theorem bdC_1 (b : UInt8 × T) : (bdC b)[1]? = some (.sc (.int .i64 b.2.ty.kind)) := by rw [bdC_eq]; rfl
@[go_sem] theorem bdC_2 (b : UInt8 × T) : (bdC b)[2]? = some (.sl (tyR b.2.ty.kids)) := by rw [bdC_eq]; rfl
@[go_sem] theorem bdC_dlen1 (b : UInt8 × T) : ((bdC b).drop 1).length = 2 := by rw [bdC_eq]; rfl
@[go_sem] theorem bdC_part1 (b : UInt8 × T) : ((bdC b).drop 1).take 2 = tyC b.2.ty := by rw [bdC_eq, tyC_eq]; rfl
@[go_sem] theorem bdR_length (l : Ctx) : (bdR l).length = l.length := by
  induction l with
  | nil => rfl
  | cons t l ih => simp [bdR, ih]
theorem bdR_get (l : Ctx) (i : Nat) : (bdR l)[i]? = (l[i]?).map bdC := by
  induction l generalizing i with
  | nil => simp [bdR]
  | cons t l ih => cases i <;> simp [bdR, ih]
@[go_sem] theorem bdR_at (l : Ctx) (i : Nat) : (bdR l)[i]? = match decide ((i : Int) < (l.length : Int)) with | true => some (bdC (bd l i)) | false => none := by
  rw [bdR_get]
  by_cases h : i < l.length
  · have h' : (i : Int) < (l.length : Int) := by omega
    simp [h, h', bd]
  · have h' : ¬ (i : Int) < (l.length : Int) := by omega
    simp [h, h']
theorem bdR_append (l m : Ctx) : bdR (l ++ m) = bdR l ++ bdR m := by
  induction l with
  | nil => rfl
  | cons t l ih => simp [bdR, ih]
theorem bdR_snoc (l : Ctx) (x : UInt8) (t : T) : bdR (l ++ [(x, t)]) = bdR l ++ [bdC (x, t)] := by rw [bdR_append]; rfl
@[go_sem] theorem bdR_tree (l : Ctx) : treeRows (bdR l) = true := by
  induction l with
  | nil => rfl
  | cons t l ih => simp only [bdR, treeRows_cons, bdC_treeL, Bool.true_and]; exact ih
@[go_sem] theorem bdR_len (l : Ctx) : rowsLen 3 (bdR l) = true := by
  induction l with
  | nil => rfl
  | cons t l ih => simp only [bdR, rowsLen_cons, bdC_length, beq_self_eq_true, Bool.true_and]; exact ih
attribute [go_sem] bdR
theorem bd_drop {l : Ctx} {k : Nat} (h : k < l.length) : l.drop k = bd l k :: l.drop (k + 1) := by
  have : bd l k = l[k] := by simp [bd, h]
  rw [this, List.drop_eq_getElem_cons h]
/-- one less, -1 for none -/
def prevI (k : Nat) : Int := match k with | 0 => -1 | k + 1 => (k : Int)
@[go_sem] theorem prevI_zero : prevI 0 = -1 := rfl
@[go_sem] theorem prevI_succ (k : Nat) : prevI (k + 1) = (k : Int) := rfl
theorem prevI_wrap {n : Nat} (h : n < 4611686018427387904) : IntKind.i64.wrap ((n : Int) - 1) = prevI n := by
  rw [IntWalk.i64_in _ (by omega)]; cases n <;> simp [prevI]
theorem look1_cons (b : UInt8 × T) (l : Ctx) (x : UInt8) : look1 (b :: l) x = match look1 l x with | some u => some u | none => match b.1 == x with | true => some b.2 | false => none := by cases b; rfl
theorem look1_drop (x : UInt8) (u : T) : ∀ (j : Nat) (l : Ctx), look1 (l.drop j) x = some u → look1 l x = some u := by
  intro j
  induction j with
  | zero => intro l h; simpa using h
  | succ j ih =>
    intro l h
    cases l with
    | nil => simp [look1] at h
    | cons b l => have := ih l (by simpa using h); rw [look1_cons, this]
theorem nmq (x y : UInt8) : ((nm x).toList == (nm y).toList) = (x == y) := by
  rw [Go.ByteArray.toList_eq, Go.ByteArray.toList_eq]; simp [nm]
end Go.Proofs.Sh
