/- Texts of the proof, one behind another. -/
import Derived.Test.YtnaebafafhamjaaKX15
import Derived.Test.YtnaebafafhamjaaKX18
set_option linter.unusedSimpArgs false
set_option linter.unusedVariables false
/- The reference's draws of terms: with operands; closed ones; spoiled ones. On shadows. -/
namespace Go.Proofs.Ytnaebafafhamjaa
open Go.RowKit Go.Proofs.Sh Go.Proofs.Grad
set_option maxRecDepth 100000
set_option maxHeartbeats 16000000
theorem fours {z : ByteArray} (h : z ∈ [nm 120, nm 121, nm 122, nm 102]) : ∃ y, z = nm y ∧ nmB y = true := by
  simp only [List.mem_cons, List.not_mem_nil, or_false] at h
  rcases h with rfl | rfl | rfl | rfl <;> exact ⟨_, rfl, by decide⟩
theorem l2Draw1 (bs : List Int) (hB : Bs bs) (p : Nat) (hp : p < 999980000) (l : List UInt8) (hl : l.length < 1000000) (hn : nms l) : ACl Try.prog 136 [.one (.ptr 2 0 0 0), .one (.sc (.string (bsOf l))), .one (.sc (.int .i64 1))] [(⟨2, 83, .mut, [[.sl (byR bs), .sc (.int .i64 ((p : Nat) : Int))]]⟩ : Blk)] (DrawsE bs p 4 4) := by
  have h1 := l2Atom bs hB p (by omega) l hl hn
  refine acl_in Try.func136 rfl isfn_136 (Nat.le_of_ble_eq_true rfl) (fun R hR => ?_); rw [Try.results136] at hR; refine wg_run ?_; (simp only [Try.f136, go_sem])
  ((first | refine kdq [0] ?_ (hc := h1) | refine kmq [0] ?_ (hc := h1) | refine ktq [0] ?_ (hc := h1)); rintro _ _ ⟨e, q, rfl, he, hc, hs, hq, rfl⟩; (simp only [go_sem]))
  exact hR _ (rat [] (hK := ⟨e, q, rfl, he, hc, hs, hq, rfl⟩))
theorem l2DrawN (bs : List Int) (hB : Bs bs) (d c n L : Nat) (hd : 1 ≤ d) (hd4 : d ≤ 8) (hc4 : 4 ≤ c) (hn4 : 4 ≤ n) (hnB : n ≤ 100000) (M : Nat) (hM : M + 40 + 3 * c ≤ 999980000) (hL : L < 900000)
    (ih : ∀ p, p < M + 40 + 3 * c → ∀ l : List UInt8, l.length ≤ L + 1 → nms l → ACl Try.prog 136 [.one (.ptr 2 0 0 0), .one (.sc (.string (bsOf l))), .one (.sc (.int .i64 (d : Nat)))] [(⟨2, 83, .mut, [[.sl (byR bs), .sc (.int .i64 ((p : Nat) : Int))]]⟩ : Blk)] (DrawsE bs p c n)) :
    ∀ p, p < M → ∀ l : List UInt8, l.length ≤ L → nms l → ACl Try.prog 136 [.one (.ptr 2 0 0 0), .one (.sc (.string (bsOf l))), .one (.sc (.int .i64 ((d + 1 : Nat) : Int)))] [(⟨2, 83, .mut, [[.sl (byR bs), .sc (.int .i64 ((p : Nat) : Int))]]⟩ : Blk)] (DrawsE bs p (40 + 3 * c) (40 + 3 * n)) := by
  intro p hp l hl hn
  have hd2 : decide (((d + 1 : Nat) : Int) < 2) = false := by simp; omega
  have hw : IntKind.i64.wrap (((d + 1 : Nat) : Int) - 1) = (d : Int) := by rw [IntWalk.i64_in _ (by omega)]; omega
  have h0 := pick bs hB p (by omega) 6 (by omega) (by omega)
  have h1 := l2Atom bs hB (p + 1) (by omega) l (by omega) hn
  have h2 := num bs hB (p + 1) (by omega) [6, 5, 7, 9, 13, 10, 11, 8, 12, 5, 6] (by decide) (by decide)
  have h3 := ofs bs hB (p + 2) (by omega) [nm 120, nm 121, nm 122, nm 102] (by decide) (by decide)
  have h4 := fun q (hq : q < 999990000) => num bs hB q (by omega) [2, 1, 3, 2] (by decide) (by decide)
  refine acl_in Try.func136 rfl isfn_136 (Nat.le_of_ble_eq_true rfl) (fun R hR => ?_); rw [Try.results136] at hR; refine wg_run ?_; (simp only [Try.f136, go_sem, hd2])
  repeat' (first | (first | (simp only [go_sem, hd2]) | (((first | apply sp1 | apply sp2 | apply sp3 | apply sp4 | apply sp5 | apply sp6 | apply sp7) <;> intro hb) <;> (simp only [go_sem, hb, hd2])) | ((first | apply wm_done | apply wt_done | apply wg_run | refine fk ?_ ?_) <;> (simp only [go_sem, hd2]))) | fail)
  ((first | refine kdq [0] ?_ (hc := h0) | refine kmq [0] ?_ (hc := h0) | refine ktq [0] ?_ (hc := h0)); rintro _ _ ⟨x, rfl, hx, hx1, rfl⟩; (simp only [go_sem]))
  repeat' (first | (first | (((first | apply sp1 | apply sp2 | apply sp3 | apply sp4 | apply sp5 | apply sp6 | apply sp7) <;> intro hb) <;> (simp only [go_sem, hb])) | ((first | apply wm_done | apply wt_done | apply wg_run | refine fk ?_ ?_) <;> (simp only [go_sem]))) | fail)
  · ((first | refine kdq [0] ?_ (hc := h1) | refine kmq [0] ?_ (hc := h1) | refine ktq [0] ?_ (hc := h1)); rintro _ _ ⟨e, q, rfl, he, hc, hs, hq, rfl⟩; (simp only [go_sem]))
    exact hR _ (rat [] (hK := ⟨e, q, rfl, he, hc, by omega, by omega, rfl⟩))
  · ((first | refine kdq [0] ?_ (hc := h2) | refine kmq [0] ?_ (hc := h2) | refine ktq [0] ?_ (hc := h2)); rintro _ _ ⟨z, rfl, hz, rfl⟩; (simp only [go_sem]))
    clear h0 h1 h2
    simp only [List.mem_cons, List.not_mem_nil, or_false] at hz
    have hz : z = 5 ∨ z = 13 ∨ z = 9 ∨ (z = 11 ∨ z = 12) ∨ (z = 6 ∨ z = 7 ∨ z = 8 ∨ z = 10) := by omega
    rcases hz with rfl | rfl | rfl | (rfl | rfl) | (rfl | rfl | rfl | rfl)
    · (simp only [go_sem])
      repeat' (first | (first | (((first | apply sp1 | apply sp2 | apply sp3 | apply sp4 | apply sp5 | apply sp6 | apply sp7) <;> intro hb) <;> (simp only [go_sem, hb])) | ((first | apply wm_done | apply wt_done | apply wg_run | refine fk ?_ ?_) <;> (simp only [go_sem]))) | fail)
      ((first | refine kdq [0] ?_ (hc := h3) | refine kmq [0] ?_ (hc := h3) | refine ktq [0] ?_ (hc := h3)); rintro _ _ ⟨y, rfl, hy, rfl⟩; (simp only [go_sem]))
      obtain ⟨y, rfl, hyb⟩ := fours hy
      have ha := l2Add l (by omega) hn y hyb
      repeat' (first | (first | (((first | apply sp1 | apply sp2 | apply sp3 | apply sp4 | apply sp5 | apply sp6 | apply sp7) <;> intro hb) <;> (simp only [go_sem, hb])) | ((first | apply wm_done | apply wt_done | apply wg_run | refine fk ?_ ?_) <;> (simp only [go_sem]))) | ((first | refine kdq [] ?_ (hc := ha) | refine kmq [] ?_ (hc := ha) | refine ktq [] ?_ (hc := ha)); rintro _ _ ⟨m, rfl, hm, hml, rfl⟩ <;> (simp only [go_sem])) | fail)
      ((first | refine kdq [0] ?_ (hc := h4 _ (by omega)) | refine kmq [0] ?_ (hc := h4 _ (by omega)) | refine ktq [0] ?_ (hc := h4 _ (by omega))); rintro _ _ ⟨z, rfl, hz, rfl⟩; (simp only [go_sem]))
      simp only [List.mem_cons, List.not_mem_nil, or_false] at hz
      obtain ⟨j, rfl, hj1, hj4⟩ : ∃ j : Nat, z = (j : Int) ∧ 1 ≤ j ∧ j ≤ 3 := ⟨z.toNat, by omega, by omega, by omega⟩
      ((first | refine kdq [0] ?_ (hc := l1Draw bs hB j hj1 (by omega) _ (by omega)) | refine kmq [0] ?_ (hc := l1Draw bs hB j hj1 (by omega) _ (by omega)) | refine ktq [0] ?_ (hc := l1Draw bs hB j hj1 (by omega) _ (by omega))); rintro _ _ ⟨x1, p1, rfl, hx1, hp1, rfl⟩; (simp only [go_sem]))
      repeat' (first | (first | (((first | apply sp1 | apply sp2 | apply sp3 | apply sp4 | apply sp5 | apply sp6 | apply sp7) <;> intro hb) <;> (simp only [go_sem, hb])) | ((first | apply wm_done | apply wt_done | apply wg_run | refine fk ?_ ?_) <;> (simp only [go_sem]))) | (first | refine cdq ?_ (hc := l2Kids _) | refine cmq ?_ (hc := l2Kids _) | refine ctq ?_ (hc := l2Kids _)); (simp only [go_sem]) | (first | (refine wl_next (wg_run ?_); (simp only [go_sem])) | refine wd_rounds 6 ?_) | ((first | refine mxq6 [0] ?_ | refine mxq5 [0] ?_ | refine mxq4 [0] ?_ | refine mxq3 [0] ?_ | refine mxq2 [0] ?_ | refine mxq1 [0] ?_ | refine mxq0 [0] ?_ | fail); (simp only [go_sem])))
      (simp only [go_sem, hw])
      ((first | refine kdq [0] ?_ (hc := ih _ (by omega) m (by omega) hm) | refine kmq [0] ?_ (hc := ih _ (by omega) m (by omega) hm) | refine ktq [0] ?_ (hc := ih _ (by omega) m (by omega) hm)); rintro _ _ ⟨a, p2, rfl, ha1, ha2, ha3, hp2, rfl⟩; (simp only [go_sem]))
      repeat' (first | (first | (((first | apply sp1 | apply sp2 | apply sp3 | apply sp4 | apply sp5 | apply sp6 | apply sp7) <;> intro hb) <;> (simp only [go_sem, hb])) | ((first | apply wm_done | apply wt_done | apply wg_run | refine fk ?_ ?_) <;> (simp only [go_sem]))) | (first | refine cdq ?_ (hc := l2Kids _) | refine cmq ?_ (hc := l2Kids _) | refine ctq ?_ (hc := l2Kids _)); (simp only [go_sem]) | (first | (refine wl_next (wg_run ?_); (simp only [go_sem])) | refine wd_rounds 6 ?_) | ((first | refine mxq6 [0] ?_ | refine mxq5 [0] ?_ | refine mxq4 [0] ?_ | refine mxq3 [0] ?_ | refine mxq2 [0] ?_ | refine mxq1 [0] ?_ | refine mxq0 [0] ?_ | fail); (simp only [go_sem])))
      have hxs := T.ty_size x1
      have hx9 := tys 3 x1 (by omega)
      exact hR _ (rat [] (hK := ⟨.lam y x1 a, p2, rfl, by simp only [E.wf, Bool.and_eq_true, decide_eq_true_eq]; exact ⟨hyb, by omega, ha1⟩, ha2, by simp [E.tm, Tm.size, Tm.sizes, noTy, Ty.size, Ty.sizes]; omega, by omega, rfl⟩))
    · (simp only [go_sem])
      repeat' (first | (first | (((first | apply sp1 | apply sp2 | apply sp3 | apply sp4 | apply sp5 | apply sp6 | apply sp7) <;> intro hb) <;> (simp only [go_sem, hb])) | ((first | apply wm_done | apply wt_done | apply wg_run | refine fk ?_ ?_) <;> (simp only [go_sem]))) | fail)
      ((first | refine kdq [0] ?_ (hc := h4 _ (by omega)) | refine kmq [0] ?_ (hc := h4 _ (by omega)) | refine ktq [0] ?_ (hc := h4 _ (by omega))); rintro _ _ ⟨z, rfl, hz, rfl⟩; (simp only [go_sem]))
      simp only [List.mem_cons, List.not_mem_nil, or_false] at hz
      obtain ⟨j, rfl, hj1, hj4⟩ : ∃ j : Nat, z = (j : Int) ∧ 1 ≤ j ∧ j ≤ 3 := ⟨z.toNat, by omega, by omega, by omega⟩
      ((first | refine kdq [0] ?_ (hc := l1Draw bs hB j hj1 (by omega) _ (by omega)) | refine kmq [0] ?_ (hc := l1Draw bs hB j hj1 (by omega) _ (by omega)) | refine ktq [0] ?_ (hc := l1Draw bs hB j hj1 (by omega) _ (by omega))); rintro _ _ ⟨x1, p1, rfl, hx1, hp1, rfl⟩; (simp only [go_sem]))
      repeat' (first | (first | (((first | apply sp1 | apply sp2 | apply sp3 | apply sp4 | apply sp5 | apply sp6 | apply sp7) <;> intro hb) <;> (simp only [go_sem, hb])) | ((first | apply wm_done | apply wt_done | apply wg_run | refine fk ?_ ?_) <;> (simp only [go_sem]))) | (first | refine cdq ?_ (hc := l2Kids _) | refine cmq ?_ (hc := l2Kids _) | refine ctq ?_ (hc := l2Kids _)); (simp only [go_sem]) | (first | (refine wl_next (wg_run ?_); (simp only [go_sem])) | refine wd_rounds 6 ?_) | ((first | refine mxq6 [0] ?_ | refine mxq5 [0] ?_ | refine mxq4 [0] ?_ | refine mxq3 [0] ?_ | refine mxq2 [0] ?_ | refine mxq1 [0] ?_ | refine mxq0 [0] ?_ | fail); (simp only [go_sem])))
      (simp only [go_sem, hw])
      ((first | refine kdq [0] ?_ (hc := ih _ (by omega) l (by omega) hn) | refine kmq [0] ?_ (hc := ih _ (by omega) l (by omega) hn) | refine ktq [0] ?_ (hc := ih _ (by omega) l (by omega) hn)); rintro _ _ ⟨a, p2, rfl, ha1, ha2, ha3, hp2, rfl⟩; (simp only [go_sem]))
      repeat' (first | (first | (((first | apply sp1 | apply sp2 | apply sp3 | apply sp4 | apply sp5 | apply sp6 | apply sp7) <;> intro hb) <;> (simp only [go_sem, hb])) | ((first | apply wm_done | apply wt_done | apply wg_run | refine fk ?_ ?_) <;> (simp only [go_sem]))) | (first | refine cdq ?_ (hc := l2Kids _) | refine cmq ?_ (hc := l2Kids _) | refine ctq ?_ (hc := l2Kids _)); (simp only [go_sem]) | (first | (refine wl_next (wg_run ?_); (simp only [go_sem])) | refine wd_rounds 6 ?_) | ((first | refine mxq6 [0] ?_ | refine mxq5 [0] ?_ | refine mxq4 [0] ?_ | refine mxq3 [0] ?_ | refine mxq2 [0] ?_ | refine mxq1 [0] ?_ | refine mxq0 [0] ?_ | fail); (simp only [go_sem])))
      have hxs := T.ty_size x1
      have hx9 := tys 3 x1 (by omega)
      exact hR _ (rat [] (hK := ⟨.asc x1 a, p2, rfl, by simp only [E.wf, Bool.and_eq_true, decide_eq_true_eq]; exact ⟨by omega, ha1⟩, ha2, by simp [E.tm, Tm.size, Tm.sizes, noTy, Ty.size, Ty.sizes]; omega, by omega, rfl⟩))
    · (simp only [go_sem])
      repeat' (first | (first | (((first | apply sp1 | apply sp2 | apply sp3 | apply sp4 | apply sp5 | apply sp6 | apply sp7) <;> intro hb) <;> (simp only [go_sem, hb])) | ((first | apply wm_done | apply wt_done | apply wg_run | refine fk ?_ ?_) <;> (simp only [go_sem]))) | (first | refine cdq ?_ (hc := l2Kids _) | refine cmq ?_ (hc := l2Kids _) | refine ctq ?_ (hc := l2Kids _)); (simp only [go_sem]) | (first | (refine wl_next (wg_run ?_); (simp only [go_sem])) | refine wd_rounds 6 ?_) | ((first | refine mxq6 [0] ?_ | refine mxq5 [0] ?_ | refine mxq4 [0] ?_ | refine mxq3 [0] ?_ | refine mxq2 [0] ?_ | refine mxq1 [0] ?_ | refine mxq0 [0] ?_ | fail); (simp only [go_sem])))
      (simp only [go_sem, hw])
      ((first | refine kdq [0] ?_ (hc := ih _ (by omega) l (by omega) hn) | refine kmq [0] ?_ (hc := ih _ (by omega) l (by omega) hn) | refine ktq [0] ?_ (hc := ih _ (by omega) l (by omega) hn)); rintro _ _ ⟨a, p2, rfl, ha1, ha2, ha3, hp2, rfl⟩; (simp only [go_sem]))
      repeat' (first | (first | (((first | apply sp1 | apply sp2 | apply sp3 | apply sp4 | apply sp5 | apply sp6 | apply sp7) <;> intro hb) <;> (simp only [go_sem, hb])) | ((first | apply wm_done | apply wt_done | apply wg_run | refine fk ?_ ?_) <;> (simp only [go_sem]))) | (first | refine cdq ?_ (hc := l2Kids _) | refine cmq ?_ (hc := l2Kids _) | refine ctq ?_ (hc := l2Kids _)); (simp only [go_sem]) | (first | (refine wl_next (wg_run ?_); (simp only [go_sem])) | refine wd_rounds 6 ?_) | ((first | refine mxq6 [0] ?_ | refine mxq5 [0] ?_ | refine mxq4 [0] ?_ | refine mxq3 [0] ?_ | refine mxq2 [0] ?_ | refine mxq1 [0] ?_ | refine mxq0 [0] ?_ | fail); (simp only [go_sem])))
      (simp only [go_sem, hw])
      ((first | refine kdq [0] ?_ (hc := ih _ (by omega) l (by omega) hn) | refine kmq [0] ?_ (hc := ih _ (by omega) l (by omega) hn) | refine ktq [0] ?_ (hc := ih _ (by omega) l (by omega) hn)); rintro _ _ ⟨b, p3, rfl, hb1, hb2, hb3, hp3, rfl⟩; (simp only [go_sem]))
      repeat' (first | (first | (((first | apply sp1 | apply sp2 | apply sp3 | apply sp4 | apply sp5 | apply sp6 | apply sp7) <;> intro hb) <;> (simp only [go_sem, hb])) | ((first | apply wm_done | apply wt_done | apply wg_run | refine fk ?_ ?_) <;> (simp only [go_sem]))) | (first | refine cdq ?_ (hc := l2Kids _) | refine cmq ?_ (hc := l2Kids _) | refine ctq ?_ (hc := l2Kids _)); (simp only [go_sem]) | (first | (refine wl_next (wg_run ?_); (simp only [go_sem])) | refine wd_rounds 6 ?_) | ((first | refine mxq6 [0] ?_ | refine mxq5 [0] ?_ | refine mxq4 [0] ?_ | refine mxq3 [0] ?_ | refine mxq2 [0] ?_ | refine mxq1 [0] ?_ | refine mxq0 [0] ?_ | fail); (simp only [go_sem])))
      (simp only [go_sem, hw])
      ((first | refine kdq [0] ?_ (hc := ih _ (by omega) l (by omega) hn) | refine kmq [0] ?_ (hc := ih _ (by omega) l (by omega) hn) | refine ktq [0] ?_ (hc := ih _ (by omega) l (by omega) hn)); rintro _ _ ⟨c, p4, rfl, hc1, hc2, hc3, hp4, rfl⟩; (simp only [go_sem]))
      repeat' (first | (first | (((first | apply sp1 | apply sp2 | apply sp3 | apply sp4 | apply sp5 | apply sp6 | apply sp7) <;> intro hb) <;> (simp only [go_sem, hb])) | ((first | apply wm_done | apply wt_done | apply wg_run | refine fk ?_ ?_) <;> (simp only [go_sem]))) | (first | refine cdq ?_ (hc := l2Kids _) | refine cmq ?_ (hc := l2Kids _) | refine ctq ?_ (hc := l2Kids _)); (simp only [go_sem]) | (first | (refine wl_next (wg_run ?_); (simp only [go_sem])) | refine wd_rounds 6 ?_) | ((first | refine mxq6 [0] ?_ | refine mxq5 [0] ?_ | refine mxq4 [0] ?_ | refine mxq3 [0] ?_ | refine mxq2 [0] ?_ | refine mxq1 [0] ?_ | refine mxq0 [0] ?_ | fail); (simp only [go_sem])))
      exact hR _ (rat [] (hK := ⟨.ite a b c, p4, rfl, by simp only [E.wf, Bool.and_eq_true]; exact ⟨ha1, hb1, hc1⟩, by simp only [E.noC, Bool.and_eq_true]; exact ⟨ha2, hb2, hc2⟩, by simp [E.tm, nd, Tm.size, Tm.sizes, noTy, Ty.size, Ty.sizes]; omega, by omega, rfl⟩))
    all_goals
      (simp only [go_sem])
      repeat' (first | (first | (((first | apply sp1 | apply sp2 | apply sp3 | apply sp4 | apply sp5 | apply sp6 | apply sp7) <;> intro hb) <;> (simp only [go_sem, hb])) | ((first | apply wm_done | apply wt_done | apply wg_run | refine fk ?_ ?_) <;> (simp only [go_sem]))) | (first | refine cdq ?_ (hc := l2Kids _) | refine cmq ?_ (hc := l2Kids _) | refine ctq ?_ (hc := l2Kids _)); (simp only [go_sem]) | (first | (refine wl_next (wg_run ?_); (simp only [go_sem])) | refine wd_rounds 6 ?_) | ((first | refine mxq6 [0] ?_ | refine mxq5 [0] ?_ | refine mxq4 [0] ?_ | refine mxq3 [0] ?_ | refine mxq2 [0] ?_ | refine mxq1 [0] ?_ | refine mxq0 [0] ?_ | fail); (simp only [go_sem])))
      (simp only [go_sem, hw])
      ((first | refine kdq [0] ?_ (hc := ih _ (by omega) l (by omega) hn) | refine kmq [0] ?_ (hc := ih _ (by omega) l (by omega) hn) | refine ktq [0] ?_ (hc := ih _ (by omega) l (by omega) hn)); rintro _ _ ⟨a, p2, rfl, ha1, ha2, ha3, hp2, rfl⟩; (simp only [go_sem]))
      repeat' (first | (first | (((first | apply sp1 | apply sp2 | apply sp3 | apply sp4 | apply sp5 | apply sp6 | apply sp7) <;> intro hb) <;> (simp only [go_sem, hb])) | ((first | apply wm_done | apply wt_done | apply wg_run | refine fk ?_ ?_) <;> (simp only [go_sem]))) | (first | refine cdq ?_ (hc := l2Kids _) | refine cmq ?_ (hc := l2Kids _) | refine ctq ?_ (hc := l2Kids _)); (simp only [go_sem]) | (first | (refine wl_next (wg_run ?_); (simp only [go_sem])) | refine wd_rounds 6 ?_) | ((first | refine mxq6 [0] ?_ | refine mxq5 [0] ?_ | refine mxq4 [0] ?_ | refine mxq3 [0] ?_ | refine mxq2 [0] ?_ | refine mxq1 [0] ?_ | refine mxq0 [0] ?_ | fail); (simp only [go_sem])))
      first
        | exact hR _ (rat [] (hK := ⟨.fst a, p2, rfl, ha1, ha2, by simp [E.tm, nd, Tm.size, Tm.sizes, noTy, Ty.size, Ty.sizes]; omega, by omega, rfl⟩))
        | exact hR _ (rat [] (hK := ⟨.snd a, p2, rfl, ha1, ha2, by simp [E.tm, nd, Tm.size, Tm.sizes, noTy, Ty.size, Ty.sizes]; omega, by omega, rfl⟩))
        | skip
    all_goals
      (simp only [go_sem, hw])
      ((first | refine kdq [0] ?_ (hc := ih _ (by omega) l (by omega) hn) | refine kmq [0] ?_ (hc := ih _ (by omega) l (by omega) hn) | refine ktq [0] ?_ (hc := ih _ (by omega) l (by omega) hn)); rintro _ _ ⟨b, p3, rfl, hb1, hb2, hb3, hp3, rfl⟩; (simp only [go_sem]))
      repeat' (first | (first | (((first | apply sp1 | apply sp2 | apply sp3 | apply sp4 | apply sp5 | apply sp6 | apply sp7) <;> intro hb) <;> (simp only [go_sem, hb])) | ((first | apply wm_done | apply wt_done | apply wg_run | refine fk ?_ ?_) <;> (simp only [go_sem]))) | (first | refine cdq ?_ (hc := l2Kids _) | refine cmq ?_ (hc := l2Kids _) | refine ctq ?_ (hc := l2Kids _)); (simp only [go_sem]) | (first | (refine wl_next (wg_run ?_); (simp only [go_sem])) | refine wd_rounds 6 ?_) | ((first | refine mxq6 [0] ?_ | refine mxq5 [0] ?_ | refine mxq4 [0] ?_ | refine mxq3 [0] ?_ | refine mxq2 [0] ?_ | refine mxq1 [0] ?_ | refine mxq0 [0] ?_ | fail); (simp only [go_sem])))
      first
        | exact hR _ (rat [] (hK := ⟨.app a b, p3, rfl, by simp only [E.wf, Bool.and_eq_true]; exact ⟨ha1, hb1⟩, by simp only [E.noC, Bool.and_eq_true]; exact ⟨ha2, hb2⟩, by simp [E.tm, nd, Tm.size, Tm.sizes, noTy, Ty.size, Ty.sizes]; omega, by omega, rfl⟩))
        | exact hR _ (rat [] (hK := ⟨.add a b, p3, rfl, by simp only [E.wf, Bool.and_eq_true]; exact ⟨ha1, hb1⟩, by simp only [E.noC, Bool.and_eq_true]; exact ⟨ha2, hb2⟩, by simp [E.tm, nd, Tm.size, Tm.sizes, noTy, Ty.size, Ty.sizes]; omega, by omega, rfl⟩))
        | exact hR _ (rat [] (hK := ⟨.less a b, p3, rfl, by simp only [E.wf, Bool.and_eq_true]; exact ⟨ha1, hb1⟩, by simp only [E.noC, Bool.and_eq_true]; exact ⟨ha2, hb2⟩, by simp [E.tm, nd, Tm.size, Tm.sizes, noTy, Ty.size, Ty.sizes]; omega, by omega, rfl⟩))
        | exact hR _ (rat [] (hK := ⟨.pair a b, p3, rfl, by simp only [E.wf, Bool.and_eq_true]; exact ⟨ha1, hb1⟩, by simp only [E.noC, Bool.and_eq_true]; exact ⟨ha2, hb2⟩, by simp [E.tm, nd, Tm.size, Tm.sizes, noTy, Ty.size, Ty.sizes]; omega, by omega, rfl⟩))
theorem l2Draw (bs : List Int) (hB : Bs bs) (d : Nat) (hd : 1 ≤ d) (hd5 : d ≤ 5) (p : Nat) (hp : p < 999900000) (l : List UInt8) (hl : l.length ≤ 10) (hn : nms l) : ACl Try.prog 136 [.one (.ptr 2 0 0 0), .one (.sc (.string (bsOf l))), .one (.sc (.int .i64 (d : Nat)))] [(⟨2, 83, .mut, [[.sl (byR bs), .sc (.int .i64 ((p : Nat) : Int))]]⟩ : Blk)] (DrawsE bs p 2000 2000) := by
  have h1 : ∀ p, p < 999979000 → ∀ l : List UInt8, l.length ≤ 14 → nms l → ACl Try.prog 136 [.one (.ptr 2 0 0 0), .one (.sc (.string (bsOf l))), .one (.sc (.int .i64 ((1 : Nat) : Int)))] [(⟨2, 83, .mut, [[.sl (byR bs), .sc (.int .i64 ((p : Nat) : Int))]]⟩ : Blk)] (DrawsE bs p 4 4) := fun p hp l hl hn => l2Draw1 bs hB p (by omega) l (by omega) hn
  have h2 := l2DrawN bs hB 1 4 4 13 (by omega) (by omega) (by omega) (by omega) (by omega) 999970000 (by omega) (by omega) (fun p hp => h1 p (by omega))
  have h3 := l2DrawN bs hB 2 52 52 12 (by omega) (by omega) (by omega) (by omega) (by omega) 999960000 (by omega) (by omega) (fun p hp => h2 p (by omega))
  have h4 := l2DrawN bs hB 3 196 196 11 (by omega) (by omega) (by omega) (by omega) (by omega) 999950000 (by omega) (by omega) (fun p hp => h3 p (by omega))
  have h5 := l2DrawN bs hB 4 628 628 10 (by omega) (by omega) (by omega) (by omega) (by omega) 999940000 (by omega) (by omega) (fun p hp => h4 p (by omega))
  obtain rfl | rfl | rfl | rfl | rfl : d = 1 ∨ d = 2 ∨ d = 3 ∨ d = 4 ∨ d = 5 := by omega
  · exact (h1 p (by omega) l (by omega) hn).mono fun r H' h => h.mono (by omega) (by omega)
  · exact (h2 p (by omega) l (by omega) hn).mono fun r H' h => h.mono (by omega) (by omega)
  · exact (h3 p (by omega) l (by omega) hn).mono fun r H' h => h.mono (by omega) (by omega)
  · exact (h4 p (by omega) l (by omega) hn).mono fun r H' h => h.mono (by omega) (by omega)
  · exact (h5 p (by omega) l (by omega) hn).mono fun r H' h => h.mono (by omega) (by omega)
theorem l2Closed (bs : List Int) (hB : Bs bs) (p : Nat) (hp : p < 999800000) : ACl Try.prog 83 [.one (.ptr 2 0 0 0)] [(⟨2, 83, .mut, [[.sl (byR bs), .sc (.int .i64 ((p : Nat) : Int))]]⟩ : Blk)] (DrawsE bs p 2010 2000) := by
  have h1 := num bs hB p (by omega) [4, 3, 5, 4, 2] (by decide) (by decide)
  refine acl_in Try.func83 rfl isfn_83 (Nat.le_of_ble_eq_true rfl) (fun R hR => ?_); rw [Try.results83] at hR; refine wg_run ?_; (simp only [Try.f83, go_sem])
  ((first | refine kdq [0] ?_ (hc := h1) | refine kmq [0] ?_ (hc := h1) | refine ktq [0] ?_ (hc := h1)); rintro _ _ ⟨z, rfl, hz, rfl⟩; (simp only [go_sem]))
  simp only [List.mem_cons, List.not_mem_nil, or_false] at hz
  obtain ⟨d, rfl, hd1, hd4⟩ : ∃ d : Nat, z = (d : Int) ∧ 1 ≤ d ∧ d ≤ 5 := ⟨z.toNat, by omega, by omega, by omega⟩
  ((first | refine kdq [0] ?_ (hc := l2Draw bs hB d hd1 hd4 (p + 1) (by omega) [] (by simp) (by intro b hb; simp at hb)) | refine kmq [0] ?_ (hc := l2Draw bs hB d hd1 hd4 (p + 1) (by omega) [] (by simp) (by intro b hb; simp at hb)) | refine ktq [0] ?_ (hc := l2Draw bs hB d hd1 hd4 (p + 1) (by omega) [] (by simp) (by intro b hb; simp at hb))); rintro _ _ ⟨e, q, rfl, he, hc, hs, hq, rfl⟩; (simp only [go_sem]))
  have hv := sTermV e.tm (by omega)
  repeat' (first | (first | (((first | apply sp1 | apply sp2 | apply sp3 | apply sp4 | apply sp5 | apply sp6 | apply sp7) <;> intro hb) <;> (simp only [go_sem, hb])) | ((first | apply wm_done | apply wt_done | apply wg_run | refine fk ?_ ?_) <;> (simp only [go_sem]))) | (first | refine cdq ?_ (hc := hv) | refine cmq ?_ (hc := hv) | refine ctq ?_ (hc := hv)); (simp only [go_sem]) | (first | refine cdq ?_ (hc := l2NumS _) | refine cmq ?_ (hc := l2NumS _) | refine ctq ?_ (hc := l2NumS _)); (simp only [go_sem]) | fail)
  · exact hR _ (rat [] (hK := ⟨e, q, rfl, he, hc, hs, by omega, rfl⟩))
  · exact hR _ (rat [] (hK := ⟨.num 3, q, rfl, by decide, rfl, by simp [E.tm, Tm.size, Tm.sizes, noTy, Ty.size, Ty.sizes], by omega, rfl⟩))
/-- a draw of some term, not too large -/
def DrawsX (bs : List Int) (p c n : Nat) (r : AV) (H' : List Blk) : Prop := ∃ (x : Tm) (p' : Nat), r = .agg (teC x) ∧ x.size ≤ n ∧ p' ≤ p + c ∧ H' = [(⟨2, 83, .mut, [[.sl (byR bs), .sc (.int .i64 ((p' : Nat) : Int))]]⟩ : Blk)]
theorem l2Mutate (bs : List Int) (hB : Bs bs) (p : Nat) (hp : p < 999800000) (t : Tm) (ht : t.size < 10000000) : ACl Try.prog 32 [.one (.ptr 2 0 0 0), .agg (teC t)] [(⟨2, 83, .mut, [[.sl (byR bs), .sc (.int .i64 ((p : Nat) : Int))]]⟩ : Blk)] (DrawsX bs p 40 (t.size + 100)) := by
  have hc := l2Copy 274877906944 (by omega) t (by omega)
  have h0 := pick bs hB p (by omega) 50 (by omega) (by omega)
  have h1 := num bs hB (p + 1) (by omega) [0, 15, 1, 6, 14, -1] (by decide) (by decide)
  have h2 := ofs bs hB (p + 1) (by omega) [nm 88, ⟨#[120, 121]⟩, ByteArray.empty, nm 120] (by decide) (by decide)
  have h3 := num bs hB (p + 1) (by omega) [1000, -1, 9223372036854775807, 5] (by decide) (by decide)
  have h4 := l1Type bs hB (p + 1) (by omega)
  have e : t.size = 1 + (t.type.size + t.frm.size + Tm.sizes t.kids) := by cases t; rfl
  have et := teC_eq t
  refine acl_in Try.func32 rfl isfn_32 (Nat.le_of_ble_eq_true rfl) (fun R hR => ?_); rw [Try.results32] at hR; refine wg_run ?_; (simp only [Try.f32, go_sem])
  repeat' (first | (first | (((first | apply sp1 | apply sp2 | apply sp3 | apply sp4 | apply sp5 | apply sp6 | apply sp7) <;> intro hb) <;> (simp only [go_sem, hb])) | ((first | apply wm_done | apply wt_done | apply wg_run | refine fk ?_ ?_) <;> (simp only [go_sem]))) | (first | refine cdq ?_ (hc := hc) | refine cmq ?_ (hc := hc) | refine ctq ?_ (hc := hc)); (simp only [go_sem]) | fail)
  ((first | refine kdq [0] ?_ (hc := h0) | refine kmq [0] ?_ (hc := h0) | refine ktq [0] ?_ (hc := h0)); rintro _ _ ⟨x, rfl, hx, hx1, rfl⟩; (simp only [go_sem]))
  repeat' (first | (first | (simp only [go_sem, et]) | (((first | apply sp1 | apply sp2 | apply sp3 | apply sp4 | apply sp5 | apply sp6 | apply sp7) <;> intro hb) <;> (simp only [go_sem, hb, et])) | ((first | apply wm_done | apply wt_done | apply wg_run | refine fk ?_ ?_) <;> (simp only [go_sem, et]))) | fail)
  · ((first | refine kdq [0] ?_ (hc := h1) | refine kmq [0] ?_ (hc := h1) | refine ktq [0] ?_ (hc := h1)); rintro _ _ ⟨z, rfl, hz, rfl⟩; (simp only [go_sem]))
    repeat' (first | (first | (simp only [go_sem, et]) | (((first | apply sp1 | apply sp2 | apply sp3 | apply sp4 | apply sp5 | apply sp6 | apply sp7) <;> intro hb) <;> (simp only [go_sem, hb, et])) | ((first | apply wm_done | apply wt_done | apply wg_run | refine fk ?_ ?_) <;> (simp only [go_sem, et]))) | ((first | refine mxq6 [] ?_ | refine mxq5 [] ?_ | refine mxq4 [] ?_ | refine mxq3 [] ?_ | refine mxq2 [] ?_ | refine mxq1 [] ?_ | refine mxq0 [] ?_ | fail); (simp only [go_sem, et])) | fail)
    exact hR _ (rat [] (hK := ⟨.mk z t.name t.num t.type t.frm t.label t.kids, p + 2, by rw [teC_eq]; rfl, by simp only [Tm.size]; omega, by omega, rfl⟩))
  · ((first | refine kdq [0] ?_ (hc := h2) | refine kmq [0] ?_ (hc := h2) | refine ktq [0] ?_ (hc := h2)); rintro _ _ ⟨z, rfl, hz, rfl⟩; (simp only [go_sem]))
    repeat' (first | (first | (simp only [go_sem, et]) | (((first | apply sp1 | apply sp2 | apply sp3 | apply sp4 | apply sp5 | apply sp6 | apply sp7) <;> intro hb) <;> (simp only [go_sem, hb, et])) | ((first | apply wm_done | apply wt_done | apply wg_run | refine fk ?_ ?_) <;> (simp only [go_sem, et]))) | ((first | refine mxq6 [] ?_ | refine mxq5 [] ?_ | refine mxq4 [] ?_ | refine mxq3 [] ?_ | refine mxq2 [] ?_ | refine mxq1 [] ?_ | refine mxq0 [] ?_ | fail); (simp only [go_sem, et])) | fail)
    exact hR _ (rat [] (hK := ⟨.mk t.kind z t.num t.type t.frm t.label t.kids, p + 2, by rw [teC_eq]; rfl, by simp only [Tm.size]; omega, by omega, rfl⟩))
  · ((first | refine kdq [0] ?_ (hc := h3) | refine kmq [0] ?_ (hc := h3) | refine ktq [0] ?_ (hc := h3)); rintro _ _ ⟨z, rfl, hz, rfl⟩; (simp only [go_sem]))
    repeat' (first | (first | (simp only [go_sem, et]) | (((first | apply sp1 | apply sp2 | apply sp3 | apply sp4 | apply sp5 | apply sp6 | apply sp7) <;> intro hb) <;> (simp only [go_sem, hb, et])) | ((first | apply wm_done | apply wt_done | apply wg_run | refine fk ?_ ?_) <;> (simp only [go_sem, et]))) | ((first | refine mxq6 [] ?_ | refine mxq5 [] ?_ | refine mxq4 [] ?_ | refine mxq3 [] ?_ | refine mxq2 [] ?_ | refine mxq1 [] ?_ | refine mxq0 [] ?_ | fail); (simp only [go_sem, et])) | fail)
    exact hR _ (rat [] (hK := ⟨.mk t.kind t.name z t.type t.frm t.label t.kids, p + 2, by rw [teC_eq]; rfl, by simp only [Tm.size]; omega, by omega, rfl⟩))
  · ((first | refine kdq [0] ?_ (hc := h4) | refine kmq [0] ?_ (hc := h4) | refine ktq [0] ?_ (hc := h4)); rintro _ _ ⟨x1, q, rfl, hx1, hq, rfl⟩; (simp only [go_sem]))
    have hx9 := tys 4 x1 hx1
    have hm := l1Mutate bs hB q (by omega) x1.ty (by rw [T.ty_size]; omega)
    ((first | refine kdq [0] ?_ (hc := hm) | refine kmq [0] ?_ (hc := hm) | refine ktq [0] ?_ (hc := hm)); rintro _ _ ⟨y, q2, rfl, hy, hq2, rfl⟩; (simp only [go_sem]))
    rw [T.ty_size] at hy
    repeat' (first | (first | (simp only [go_sem, et]) | (((first | apply sp1 | apply sp2 | apply sp3 | apply sp4 | apply sp5 | apply sp6 | apply sp7) <;> intro hb) <;> (simp only [go_sem, hb, et])) | ((first | apply wm_done | apply wt_done | apply wg_run | refine fk ?_ ?_) <;> (simp only [go_sem, et]))) | ((first | refine mxq6 [] ?_ | refine mxq5 [] ?_ | refine mxq4 [] ?_ | refine mxq3 [] ?_ | refine mxq2 [] ?_ | refine mxq1 [] ?_ | refine mxq0 [] ?_ | fail); (simp only [go_sem, et])) | fail)
    exact hR _ (rat [] (hK := ⟨.mk t.kind t.name t.num y t.frm t.label t.kids, q2, by rw [teC_eq]; rfl, by simp only [Tm.size]; omega, by omega, rfl⟩))
  · exact hR _ (rat [] (hK := ⟨.mk t.kind t.name t.num t.type t.frm 1 t.kids, p + 1, by rw [teC_eq]; rfl, by simp only [Tm.size]; omega, by omega, rfl⟩))
  · repeat' (first | (first | (simp only [go_sem, et]) | (((first | apply sp1 | apply sp2 | apply sp3 | apply sp4 | apply sp5 | apply sp6 | apply sp7) <;> intro hb) <;> (simp only [go_sem, hb, et])) | ((first | apply wm_done | apply wt_done | apply wg_run | refine fk ?_ ?_) <;> (simp only [go_sem, et]))) | (first | refine cdq ?_ (hc := l1Any) | refine cmq ?_ (hc := l1Any) | refine ctq ?_ (hc := l1Any)); (simp only [go_sem]) | fail)
    exact hR _ (rat [] (hK := ⟨.mk t.kind t.name t.num t.type (.mk 1 []) t.label t.kids, p + 1, by rw [teC_eq]; rfl, by simp only [Tm.size, Ty.size, Ty.sizes]; omega, by omega, rfl⟩))
  · exact hR _ (rat [] (hK := ⟨t, p + 1, by rw [teC_eq], by omega, by omega, rfl⟩))
end Go.Proofs.Ytnaebafafhamjaa
/- The reference's draws of typed terms: less precise types; the end of a draw. On shadows. -/
namespace Go.Proofs.Ytnaebafafhamjaa
open Go.RowKit Go.Proofs.Sh Go.Proofs.Grad
set_option maxRecDepth 100000
set_option maxHeartbeats 16000000
theorem l1BlurS (bs : List Int) (hB : Bs bs) (x : T) : ∀ p, p + 30 * x.size < 999990000 → ACl Try.prog 88 [.one (.ptr 2 0 0 0), .agg (tyC x.ty)] [(⟨2, 83, .mut, [[.sl (byR bs), .sc (.int .i64 ((p : Nat) : Int))]]⟩ : Blk)] (DrawsT bs p x.size x.depth) := by
  induction x with
  | any | int | bool =>
    intro p hp
    have hk := pick bs hB p (by simp only [T.size] at hp; omega) 4 (by omega) (by omega)
    refine acl_in Try.func88 rfl isfn_88 (Nat.le_of_ble_eq_true rfl) (fun R hR => ?_); rw [Try.results88] at hR; refine wg_run ?_; (simp only [Try.f88, go_sem])
    ((first | refine kdq [0] ?_ (hc := hk) | refine kmq [0] ?_ (hc := hk) | refine ktq [0] ?_ (hc := hk)); rintro _ _ ⟨z, rfl, hz, hz1, rfl⟩; (simp only [go_sem]))
    repeat' (first | (first | (((first | apply sp1 | apply sp2 | apply sp3 | apply sp4 | apply sp5 | apply sp6 | apply sp7) <;> intro hb) <;> (simp only [go_sem, hb])) | ((first | apply wm_done | apply wt_done | apply wg_run | refine fk ?_ ?_) <;> (simp only [go_sem]))) | (first | refine cdq ?_ (hc := l1Any) | refine cmq ?_ (hc := l1Any) | refine ctq ?_ (hc := l1Any)); (simp only [go_sem]) | (first | (refine wl_next (wg_run ?_); (simp only [go_sem])) | refine wd_rounds 6 ?_))
    all_goals first
      | exact hR _ (rat [] (hK := ⟨.any, p + 1, rfl, by simp only [T.depth]; omega, by simp only [T.size]; omega, rfl⟩))
      | exact hR _ (rat [] (hK := ⟨.int, p + 1, rfl, by simp only [T.depth]; omega, by simp only [T.size]; omega, rfl⟩))
      | exact hR _ (rat [] (hK := ⟨.bool, p + 1, rfl, by simp only [T.depth]; omega, by simp only [T.size]; omega, rfl⟩))
  | fn a b iha ihb =>
    intro p hp
    simp only [T.size] at hp
    have hk := pick bs hB p (by omega) 4 (by omega) (by omega)
    refine acl_in Try.func88 rfl isfn_88 (Nat.le_of_ble_eq_true rfl) (fun R hR => ?_); rw [Try.results88] at hR; refine wg_run ?_; (simp only [Try.f88, go_sem])
    ((first | refine kdq [0] ?_ (hc := hk) | refine kmq [0] ?_ (hc := hk) | refine ktq [0] ?_ (hc := hk)); rintro _ _ ⟨z, rfl, hz, hz1, rfl⟩; (simp only [go_sem]))
    repeat' (first | (first | (((first | apply sp1 | apply sp2 | apply sp3 | apply sp4 | apply sp5 | apply sp6 | apply sp7) <;> intro hb) <;> (simp only [go_sem, hb])) | ((first | apply wm_done | apply wt_done | apply wg_run | refine fk ?_ ?_) <;> (simp only [go_sem]))) | (first | refine cdq ?_ (hc := l1Any) | refine cmq ?_ (hc := l1Any) | refine ctq ?_ (hc := l1Any)); (simp only [go_sem]) | (first | (refine wl_next (wg_run ?_); (simp only [go_sem])) | refine wd_rounds 6 ?_) | ((first | refine mxq6 [0] ?_ | refine mxq5 [0] ?_ | refine mxq4 [0] ?_ | refine mxq3 [0] ?_ | refine mxq2 [0] ?_ | refine mxq1 [0] ?_ | refine mxq0 [0] ?_ | fail); (simp only [go_sem])))
    · exact hR _ (rat [] (hK := ⟨.any, p + 1, rfl, by simp only [T.depth]; omega, by simp only [T.size]; omega, rfl⟩))
    · ((first | refine kdq [0] ?_ (hc := iha _ (by omega)) | refine kmq [0] ?_ (hc := iha _ (by omega)) | refine ktq [0] ?_ (hc := iha _ (by omega))); rintro _ _ ⟨x1, p1, rfl, hx1, hp1, rfl⟩; (simp only [go_sem]))
      repeat' (first | (first | (((first | apply sp1 | apply sp2 | apply sp3 | apply sp4 | apply sp5 | apply sp6 | apply sp7) <;> intro hb) <;> (simp only [go_sem, hb])) | ((first | apply wm_done | apply wt_done | apply wg_run | refine fk ?_ ?_) <;> (simp only [go_sem]))) | (first | (refine wl_next (wg_run ?_); (simp only [go_sem])) | refine wd_rounds 6 ?_) | ((first | refine mxq6 [0] ?_ | refine mxq5 [0] ?_ | refine mxq4 [0] ?_ | refine mxq3 [0] ?_ | refine mxq2 [0] ?_ | refine mxq1 [0] ?_ | refine mxq0 [0] ?_ | fail); (simp only [go_sem])))
      ((first | refine kdq [0] ?_ (hc := ihb _ (by omega)) | refine kmq [0] ?_ (hc := ihb _ (by omega)) | refine ktq [0] ?_ (hc := ihb _ (by omega))); rintro _ _ ⟨x2, p2, rfl, hx2, hp2, rfl⟩; (simp only [go_sem]))
      repeat' (first | (first | (((first | apply sp1 | apply sp2 | apply sp3 | apply sp4 | apply sp5 | apply sp6 | apply sp7) <;> intro hb) <;> (simp only [go_sem, hb])) | ((first | apply wm_done | apply wt_done | apply wg_run | refine fk ?_ ?_) <;> (simp only [go_sem]))) | (first | (refine wl_next (wg_run ?_); (simp only [go_sem])) | refine wd_rounds 6 ?_) | ((first | refine mxq6 [0] ?_ | refine mxq5 [0] ?_ | refine mxq4 [0] ?_ | refine mxq3 [0] ?_ | refine mxq2 [0] ?_ | refine mxq1 [0] ?_ | refine mxq0 [0] ?_ | fail); (simp only [go_sem])))
      exact hR _ (rat [] (hK := ⟨.fn x1 x2, p2, rfl, by simp only [T.depth]; omega, by simp only [T.size]; omega, rfl⟩))
  | pr a b iha ihb =>
    intro p hp
    simp only [T.size] at hp
    have hk := pick bs hB p (by omega) 4 (by omega) (by omega)
    refine acl_in Try.func88 rfl isfn_88 (Nat.le_of_ble_eq_true rfl) (fun R hR => ?_); rw [Try.results88] at hR; refine wg_run ?_; (simp only [Try.f88, go_sem])
    ((first | refine kdq [0] ?_ (hc := hk) | refine kmq [0] ?_ (hc := hk) | refine ktq [0] ?_ (hc := hk)); rintro _ _ ⟨z, rfl, hz, hz1, rfl⟩; (simp only [go_sem]))
    repeat' (first | (first | (((first | apply sp1 | apply sp2 | apply sp3 | apply sp4 | apply sp5 | apply sp6 | apply sp7) <;> intro hb) <;> (simp only [go_sem, hb])) | ((first | apply wm_done | apply wt_done | apply wg_run | refine fk ?_ ?_) <;> (simp only [go_sem]))) | (first | refine cdq ?_ (hc := l1Any) | refine cmq ?_ (hc := l1Any) | refine ctq ?_ (hc := l1Any)); (simp only [go_sem]) | (first | (refine wl_next (wg_run ?_); (simp only [go_sem])) | refine wd_rounds 6 ?_) | ((first | refine mxq6 [0] ?_ | refine mxq5 [0] ?_ | refine mxq4 [0] ?_ | refine mxq3 [0] ?_ | refine mxq2 [0] ?_ | refine mxq1 [0] ?_ | refine mxq0 [0] ?_ | fail); (simp only [go_sem])))
    · exact hR _ (rat [] (hK := ⟨.any, p + 1, rfl, by simp only [T.depth]; omega, by simp only [T.size]; omega, rfl⟩))
    · ((first | refine kdq [0] ?_ (hc := iha _ (by omega)) | refine kmq [0] ?_ (hc := iha _ (by omega)) | refine ktq [0] ?_ (hc := iha _ (by omega))); rintro _ _ ⟨x1, p1, rfl, hx1, hp1, rfl⟩; (simp only [go_sem]))
      repeat' (first | (first | (((first | apply sp1 | apply sp2 | apply sp3 | apply sp4 | apply sp5 | apply sp6 | apply sp7) <;> intro hb) <;> (simp only [go_sem, hb])) | ((first | apply wm_done | apply wt_done | apply wg_run | refine fk ?_ ?_) <;> (simp only [go_sem]))) | (first | (refine wl_next (wg_run ?_); (simp only [go_sem])) | refine wd_rounds 6 ?_) | ((first | refine mxq6 [0] ?_ | refine mxq5 [0] ?_ | refine mxq4 [0] ?_ | refine mxq3 [0] ?_ | refine mxq2 [0] ?_ | refine mxq1 [0] ?_ | refine mxq0 [0] ?_ | fail); (simp only [go_sem])))
      ((first | refine kdq [0] ?_ (hc := ihb _ (by omega)) | refine kmq [0] ?_ (hc := ihb _ (by omega)) | refine ktq [0] ?_ (hc := ihb _ (by omega))); rintro _ _ ⟨x2, p2, rfl, hx2, hp2, rfl⟩; (simp only [go_sem]))
      repeat' (first | (first | (((first | apply sp1 | apply sp2 | apply sp3 | apply sp4 | apply sp5 | apply sp6 | apply sp7) <;> intro hb) <;> (simp only [go_sem, hb])) | ((first | apply wm_done | apply wt_done | apply wg_run | refine fk ?_ ?_) <;> (simp only [go_sem]))) | (first | (refine wl_next (wg_run ?_); (simp only [go_sem])) | refine wd_rounds 6 ?_) | ((first | refine mxq6 [0] ?_ | refine mxq5 [0] ?_ | refine mxq4 [0] ?_ | refine mxq3 [0] ?_ | refine mxq2 [0] ?_ | refine mxq1 [0] ?_ | refine mxq0 [0] ?_ | fail); (simp only [go_sem])))
      exact hR _ (rat [] (hK := ⟨.pr x1 x2, p2, rfl, by simp only [T.depth]; omega, by simp only [T.size]; omega, rfl⟩))
def ctxN (Γ : Ctx) : Prop := ∀ b ∈ Γ, nmB b.1 = true
theorem ctxN_nil : ctxN [] := by intro b h; simp at h
theorem ctxN_snoc {Γ : Ctx} {x : UInt8} {t : T} (h : ctxN Γ) (hx : nmB x = true) : ctxN (Γ ++ [(x, t)]) := by
  intro b hb
  rcases List.mem_append.1 hb with hb | hb
  · exact h b hb
  · simp at hb; subst hb; exact hx
end Go.Proofs.Ytnaebafafhamjaa
