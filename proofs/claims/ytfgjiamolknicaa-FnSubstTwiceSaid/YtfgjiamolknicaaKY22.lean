/- Texts of the proof, one behind another. -/
import Derived.Test.YtfgjiamolknicaaKY14
set_option linter.unusedSimpArgs false
set_option linter.unusedVariables false
/- The reference's draws of plain terms as arguments. On shadows. -/
namespace Go.Proofs.Ytfgjiamolknicaa
open Go.RowKit Go.Proofs.Sh Go.Proofs.Grad
set_option maxRecDepth 100000
set_option maxHeartbeats 16000000
theorem nms_xz : nms [120, 122] := by intro b hb; simp at hb; rcases hb with rfl | rfl <;> decide
theorem l2TermD (bs : List Int) (hB : Bs bs) (p : Nat) (hp : p < 999700000) : ACl Try.prog 61 [.one (.ptr 2 0 0 0)] [(⟨2, 106, .mut, [[.sl (byR bs), .sc (.int .i64 ((p : Nat) : Int))]]⟩ : Blk)] (DrawsE bs p 2020 2000) := by
  have h0 := pick bs hB p (by omega) 4 (by omega) (by omega)
  have h1 := num bs hB (p + 1) (by omega) [3, 2, 4] (by decide) (by decide)
  refine acl_in Try.func61 rfl isfn_61 (Nat.le_of_ble_eq_true rfl) (fun R hR => ?_); rw [Try.results61] at hR; refine wg_run ?_; (simp only [Try.f61, go_sem])
  ((first | refine kdq [0] ?_ (hc := h0) | refine kmq [0] ?_ (hc := h0) | refine ktq [0] ?_ (hc := h0)); rintro _ _ ⟨x, rfl, hx, hx1, rfl⟩; (simp only [go_sem]))
  repeat' (first | (first | (((first | apply sp1 | apply sp2 | apply sp3 | apply sp4 | apply sp5 | apply sp6 | apply sp7) <;> intro hb) <;> (simp only [go_sem, hb])) | ((first | apply wm_done | apply wt_done | apply wg_run | refine fk ?_ ?_) <;> (simp only [go_sem]))) | fail)
  · ((first | refine kdq [0] ?_ (hc := l2Closed bs hB (p + 1) (by omega)) | refine kmq [0] ?_ (hc := l2Closed bs hB (p + 1) (by omega)) | refine ktq [0] ?_ (hc := l2Closed bs hB (p + 1) (by omega))); rintro _ _ ⟨e, q, rfl, he, hc, hs, hq, rfl⟩; (simp only [go_sem]))
    repeat' (first | (first | (((first | apply sp1 | apply sp2 | apply sp3 | apply sp4 | apply sp5 | apply sp6 | apply sp7) <;> intro hb) <;> (simp only [go_sem, hb])) | ((first | apply wm_done | apply wt_done | apply wg_run | refine fk ?_ ?_) <;> (simp only [go_sem]))) | fail)
    exact hR _ (rat [] (hK := ⟨e, q, rfl, he, hc, hs, by omega, rfl⟩))
  · repeat' (first | (first | (((first | apply sp1 | apply sp2 | apply sp3 | apply sp4 | apply sp5 | apply sp6 | apply sp7) <;> intro hb) <;> (simp only [go_sem, hb])) | ((first | apply wm_done | apply wt_done | apply wg_run | refine fk ?_ ?_) <;> (simp only [go_sem]))) | (refine wd_mix 2 [0] follows (by kernel_rfl) (by (simp only [go_sem]); first | done | rfl) ?_; (simp only [go_sem])) | fail)
    ((first | refine kdq [0] ?_ (hc := h1) | refine kmq [0] ?_ (hc := h1) | refine ktq [0] ?_ (hc := h1)); rintro _ _ ⟨z, rfl, hz, rfl⟩; (simp only [go_sem]))
    simp only [List.mem_cons, List.not_mem_nil, or_false] at hz
    obtain ⟨d, rfl, hd1, hd4⟩ : ∃ d : Nat, z = (d : Int) ∧ 1 ≤ d ∧ d ≤ 5 := ⟨z.toNat, by omega, by omega, by omega⟩
    repeat' (first | (first | (((first | apply sp1 | apply sp2 | apply sp3 | apply sp4 | apply sp5 | apply sp6 | apply sp7) <;> intro hb) <;> (simp only [go_sem, hb])) | ((first | apply wm_done | apply wt_done | apply wg_run | refine fk ?_ ?_) <;> (simp only [go_sem]))) | (refine wd_mix 2 [0] follows (by kernel_rfl) (by (simp only [go_sem]); first | done | rfl) ?_; (simp only [go_sem])) | fail)
    ((first | refine kdq [0] ?_ (hc := l2Draw bs hB d hd1 hd4 (p + 2) (by omega) [120, 122] (by simp) nms_xz) | refine kmq [0] ?_ (hc := l2Draw bs hB d hd1 hd4 (p + 2) (by omega) [120, 122] (by simp) nms_xz) | refine ktq [0] ?_ (hc := l2Draw bs hB d hd1 hd4 (p + 2) (by omega) [120, 122] (by simp) nms_xz)); rintro _ _ ⟨e, q, rfl, he, hc, hs, hq, rfl⟩; (simp only [go_sem]))
    have hv := sTermV e.tm (by omega)
    repeat' (first | (first | (((first | apply sp1 | apply sp2 | apply sp3 | apply sp4 | apply sp5 | apply sp6 | apply sp7) <;> intro hb) <;> (simp only [go_sem, hb])) | ((first | apply wm_done | apply wt_done | apply wg_run | refine fk ?_ ?_) <;> (simp only [go_sem]))) | (first | refine cdq ?_ (hc := hv) | refine cmq ?_ (hc := hv) | refine ctq ?_ (hc := hv)); (simp only [go_sem]) | (first | refine cdq ?_ (hc := l2NumS _) | refine cmq ?_ (hc := l2NumS _) | refine ctq ?_ (hc := l2NumS _)); (simp only [go_sem]) | fail)
    · exact hR _ (rat [] (hK := ⟨e, q, rfl, he, hc, hs, by omega, rfl⟩))
    · exact hR _ (rat [] (hK := ⟨.num 4, q, rfl, by decide, rfl, by simp [E.tm, Tm.size, Tm.sizes, noTy, Ty.size, Ty.sizes], by omega, rfl⟩))
/-- a term, small -/
def OneS (r : AV) (H' : List Blk) : Prop := ∃ x : Tm, r = .agg (teC x) ∧ x.size ≤ 5000000 ∧ H' = []
theorem dTermValid (l : List Int) (hl : Code8 l) : ACl Try.prog 56 [.one (.sl (byR l))] [] OneS := by
  have ho := opn l hl.len hl.all
  refine acl_in Try.func56 rfl isfn_56 (Nat.le_of_ble_eq_true rfl) (fun R hR => ?_); rw [Try.results56] at hR; refine wg_run ?_; (simp only [Try.f56, go_sem])
  ((first | refine kdq [] ?_ (hc := ho) | refine kmq [] ?_ (hc := ho) | refine ktq [] ?_ (hc := ho)); rintro _ _ ⟨bs, hB, rfl, rfl⟩ <;> (simp only [go_sem]))
  have hA := l2TermD bs hB 0 (by omega)
  repeat' (first | (first | (((first | apply sp1 | apply sp2 | apply sp3 | apply sp4 | apply sp5 | apply sp6 | apply sp7) <;> intro hb) <;> (simp only [go_sem, hb])) | ((first | apply wm_done | apply wt_done | apply wg_run | refine fk ?_ ?_) <;> (simp only [go_sem]))) | fail)
  ((first | refine kdq [1] ?_ (hc := hA) | refine kmq [1] ?_ (hc := hA) | refine ktq [1] ?_ (hc := hA)); rintro _ _ ⟨e, q, rfl, he, hc, hs, hq, rfl⟩ <;> (simp only [go_sem]))
  have hm := l2Mutate bs hB q (by omega) e.tm (by omega)
  repeat' (first | (first | (((first | apply sp1 | apply sp2 | apply sp3 | apply sp4 | apply sp5 | apply sp6 | apply sp7) <;> intro hb) <;> (simp only [go_sem, hb])) | ((first | apply wm_done | apply wt_done | apply wg_run | refine fk ?_ ?_) <;> (simp only [go_sem]))) | fail)
  ((first | refine kdq [1] ?_ (hc := hm) | refine kmq [1] ?_ (hc := hm) | refine ktq [1] ?_ (hc := hm)); rintro _ _ ⟨y, q2, rfl, hy, hq2, rfl⟩ <;> (simp only [go_sem]))
  repeat' (first | (first | (((first | apply sp1 | apply sp2 | apply sp3 | apply sp4 | apply sp5 | apply sp6 | apply sp7) <;> intro hb) <;> (simp only [go_sem, hb])) | ((first | apply wm_done | apply wt_done | apply wg_run | refine fk ?_ ?_) <;> (simp only [go_sem]))) | fail)
  exact hR _ (rat [] (hK := ⟨y, rfl, by omega, rfl⟩))
theorem dFreeNames (l : List Int) (hl : Code8 l) : ACl Try.prog 15 [.one (.sl (byR l))] [] OneS := by
  have ho := dTermValid l hl
  refine acl_in Try.func15 rfl isfn_15 (Nat.le_of_ble_eq_true rfl) (fun R hR => ?_); rw [Try.results15] at hR; refine wg_run ?_; (simp only [Try.f15, go_sem])
  repeat' (first | (first | (((first | apply sp1 | apply sp2 | apply sp3 | apply sp4 | apply sp5 | apply sp6 | apply sp7) <;> intro hb) <;> (simp only [go_sem, hb])) | ((first | apply wm_done | apply wt_done | apply wg_run | refine fk ?_ ?_) <;> (simp only [go_sem]))) | fail)
  ((first | refine kdq [] ?_ (hc := ho) | refine kmq [] ?_ (hc := ho) | refine ktq [] ?_ (hc := ho)); rintro _ _ ⟨x, rfl, hx, rfl⟩ <;> (simp only [go_sem]))
  repeat' (first | (first | (((first | apply sp1 | apply sp2 | apply sp3 | apply sp4 | apply sp5 | apply sp6 | apply sp7) <;> intro hb) <;> (simp only [go_sem, hb])) | ((first | apply wm_done | apply wt_done | apply wg_run | refine fk ?_ ?_) <;> (simp only [go_sem]))) | fail)
  exact hR _ (rat [] (hK := ⟨x, rfl, hx, rfl⟩))
theorem dEraseTerm (l : List Int) (hl : Code8 l) : ACl Try.prog 30 [.one (.sl (byR l))] [] OneS := by
  have ho := dTermValid l hl
  refine acl_in Try.func30 rfl isfn_30 (Nat.le_of_ble_eq_true rfl) (fun R hR => ?_); rw [Try.results30] at hR; refine wg_run ?_; (simp only [Try.f30, go_sem])
  repeat' (first | (first | (((first | apply sp1 | apply sp2 | apply sp3 | apply sp4 | apply sp5 | apply sp6 | apply sp7) <;> intro hb) <;> (simp only [go_sem, hb])) | ((first | apply wm_done | apply wt_done | apply wg_run | refine fk ?_ ?_) <;> (simp only [go_sem]))) | fail)
  ((first | refine kdq [] ?_ (hc := ho) | refine kmq [] ?_ (hc := ho) | refine ktq [] ?_ (hc := ho)); rintro _ _ ⟨x, rfl, hx, rfl⟩ <;> (simp only [go_sem]))
  repeat' (first | (first | (((first | apply sp1 | apply sp2 | apply sp3 | apply sp4 | apply sp5 | apply sp6 | apply sp7) <;> intro hb) <;> (simp only [go_sem, hb])) | ((first | apply wm_done | apply wt_done | apply wg_run | refine fk ?_ ?_) <;> (simp only [go_sem]))) | fail)
  exact hR _ (rat [] (hK := ⟨x, rfl, hx, rfl⟩))
/-- a term, a name and a term without casts -/
def SubD (r : AV) (H' : List Blk) : Prop := ∃ (x : Tm) (s : ByteArray) (v : E), r = .tup [.agg (teC x), .one (.sc (.string s)), .agg (teC v.tm)] ∧ x.size ≤ 5000000 ∧ s ∈ [nm 120, nm 122, nm 121, nm 120, nm 88, ByteArray.empty] ∧ v.wf = true ∧ v.noC = true ∧ v.tm.size ≤ 5000 ∧ H' = []
theorem dSubstTerm (l : List Int) (hl : Code8 l) : ACl Try.prog 16 [.one (.sl (byR l))] [] SubD := by
  have ho := opn l hl.len hl.all
  refine acl_in Try.func16 rfl isfn_16 (Nat.le_of_ble_eq_true rfl) (fun R hR => ?_); rw [Try.results16] at hR; refine wg_run ?_; (simp only [Try.f16, go_sem])
  ((first | refine kdq [] ?_ (hc := ho) | refine kmq [] ?_ (hc := ho) | refine ktq [] ?_ (hc := ho)); rintro _ _ ⟨bs, hB, rfl, rfl⟩ <;> (simp only [go_sem]))
  have hn := num bs hB 0 (by omega) [3, 2, 4, 3] (by decide) (by decide)
  repeat' (first | (first | (((first | apply sp1 | apply sp2 | apply sp3 | apply sp4 | apply sp5 | apply sp6 | apply sp7) <;> intro hb) <;> (simp only [go_sem, hb])) | ((first | apply wm_done | apply wt_done | apply wg_run | refine fk ?_ ?_) <;> (simp only [go_sem]))) | fail)
  ((first | refine kdq [2] ?_ (hc := hn) | refine kmq [2] ?_ (hc := hn) | refine ktq [2] ?_ (hc := hn)); rintro _ _ ⟨z, rfl, hz, rfl⟩ <;> (simp only [go_sem]))
  simp only [List.mem_cons, List.not_mem_nil, or_false] at hz
  obtain ⟨d, rfl, hd1, hd4⟩ : ∃ d : Nat, z = (d : Int) ∧ 1 ≤ d ∧ d ≤ 5 := ⟨z.toNat, by omega, by omega, by omega⟩
  have hA := l2Draw bs hB d hd1 hd4 1 (by omega) [120, 122] (by simp) nms_xz
  repeat' (first | (first | (((first | apply sp1 | apply sp2 | apply sp3 | apply sp4 | apply sp5 | apply sp6 | apply sp7) <;> intro hb) <;> (simp only [go_sem, hb])) | ((first | apply wm_done | apply wt_done | apply wg_run | refine fk ?_ ?_) <;> (simp only [go_sem]))) | fail)
  ((first | refine kdq [2] ?_ (hc := hA) | refine kmq [2] ?_ (hc := hA) | refine ktq [2] ?_ (hc := hA)); rintro _ _ ⟨e, q, rfl, he, hc, hs, hq, rfl⟩ <;> (simp only [go_sem]))
  have hn := num bs hB q (by omega) [1, 2, 1, 3] (by decide) (by decide)
  repeat' (first | (first | (((first | apply sp1 | apply sp2 | apply sp3 | apply sp4 | apply sp5 | apply sp6 | apply sp7) <;> intro hb) <;> (simp only [go_sem, hb])) | ((first | apply wm_done | apply wt_done | apply wg_run | refine fk ?_ ?_) <;> (simp only [go_sem]))) | fail)
  ((first | refine kdq [2] ?_ (hc := hn) | refine kmq [2] ?_ (hc := hn) | refine ktq [2] ?_ (hc := hn)); rintro _ _ ⟨z2, rfl, hz2, rfl⟩ <;> (simp only [go_sem]))
  simp only [List.mem_cons, List.not_mem_nil, or_false] at hz2
  obtain ⟨d2, rfl, hd21, hd24⟩ : ∃ d : Nat, z2 = (d : Int) ∧ 1 ≤ d ∧ d ≤ 5 := ⟨z2.toNat, by omega, by omega, by omega⟩
  have hA := l2Draw bs hB d2 hd21 hd24 (q + 1) (by omega) [] (by simp) (by intro b hb; simp at hb)
  repeat' (first | (first | (((first | apply sp1 | apply sp2 | apply sp3 | apply sp4 | apply sp5 | apply sp6 | apply sp7) <;> intro hb) <;> (simp only [go_sem, hb])) | ((first | apply wm_done | apply wt_done | apply wg_run | refine fk ?_ ?_) <;> (simp only [go_sem]))) | fail)
  ((first | refine kdq [2] ?_ (hc := hA) | refine kmq [2] ?_ (hc := hA) | refine ktq [2] ?_ (hc := hA)); rintro _ _ ⟨v, q2, rfl, hv, hvc, hvs, hq2, rfl⟩ <;> (simp only [go_sem]))
  have hk := pick bs hB q2 (by omega) 12 (by omega) (by omega)
  repeat' (first | (first | (((first | apply sp1 | apply sp2 | apply sp3 | apply sp4 | apply sp5 | apply sp6 | apply sp7) <;> intro hb) <;> (simp only [go_sem, hb])) | ((first | apply wm_done | apply wt_done | apply wg_run | refine fk ?_ ?_) <;> (simp only [go_sem]))) | fail)
  ((first | refine kdq [2] ?_ (hc := hk) | refine kmq [2] ?_ (hc := hk) | refine ktq [2] ?_ (hc := hk)); rintro _ _ ⟨z3, rfl, hz3, hz31, rfl⟩ <;> (simp only [go_sem]))
  repeat' (first | (first | (((first | apply sp1 | apply sp2 | apply sp3 | apply sp4 | apply sp5 | apply sp6 | apply sp7) <;> intro hb) <;> (simp only [go_sem, hb])) | ((first | apply wm_done | apply wt_done | apply wg_run | refine fk ?_ ?_) <;> (simp only [go_sem]))) | fail)
  · have hA := l2TermD bs hB (q2 + 1) (by omega)
    ((first | refine kdq [2] ?_ (hc := hA) | refine kmq [2] ?_ (hc := hA) | refine ktq [2] ?_ (hc := hA)); rintro _ _ ⟨v2, q3, rfl, hv2, hvc2, hvs2, hq3, rfl⟩ <;> (simp only [go_sem]))
    have hm := l2Mutate bs hB q3 (by omega) e.tm (by omega)
    repeat' (first | (first | (((first | apply sp1 | apply sp2 | apply sp3 | apply sp4 | apply sp5 | apply sp6 | apply sp7) <;> intro hb) <;> (simp only [go_sem, hb])) | ((first | apply wm_done | apply wt_done | apply wg_run | refine fk ?_ ?_) <;> (simp only [go_sem]))) | (first | (refine tr (.op 0 false (.op 1 false (.op 3 false (.op 6 false (.fork 2 false (.op 4 false (.op 5 false (.op 7 false (.op 8 false (.op 9 true .nil))))) (.op 4 false (.op 2 false (.op 5 false (.op 7 false (.op 8 false (.op 9 true .nil))))))))))) [0, 1, 2] follows ?_; (simp only [go_sem])) | fail) | fail)
    all_goals
      ((first | refine kdq [2] ?_ (hc := hm) | refine kmq [2] ?_ (hc := hm) | refine ktq [2] ?_ (hc := hm)); rintro _ _ ⟨y, q4, rfl, hy, hq4, rfl⟩ <;> (simp only [go_sem]))
      have h2 := ofs bs hB q4 (by omega) [nm 120, nm 122, nm 121, nm 120, nm 88, ByteArray.empty] (by decide) (by decide)
      repeat' (first | (first | (((first | apply sp1 | apply sp2 | apply sp3 | apply sp4 | apply sp5 | apply sp6 | apply sp7) <;> intro hb) <;> (simp only [go_sem, hb])) | ((first | apply wm_done | apply wt_done | apply wg_run | refine fk ?_ ?_) <;> (simp only [go_sem]))) | fail)
      ((first | refine kdq [2] ?_ (hc := h2) | refine kmq [2] ?_ (hc := h2) | refine ktq [2] ?_ (hc := h2)); rintro _ _ ⟨s, rfl, hs, rfl⟩ <;> (simp only [go_sem]))
      repeat' (first | (first | (((first | apply sp1 | apply sp2 | apply sp3 | apply sp4 | apply sp5 | apply sp6 | apply sp7) <;> intro hb) <;> (simp only [go_sem, hb])) | ((first | apply wm_done | apply wt_done | apply wg_run | refine fk ?_ ?_) <;> (simp only [go_sem]))) | fail)
      exact hR _ (rat [] (hK := ⟨y, s, v2, rfl, by omega, hs, hv2, hvc2, by omega, rfl⟩))
  · have hm := l2Mutate bs hB (q2 + 1) (by omega) e.tm (by omega)
    repeat' (first | (first | (((first | apply sp1 | apply sp2 | apply sp3 | apply sp4 | apply sp5 | apply sp6 | apply sp7) <;> intro hb) <;> (simp only [go_sem, hb])) | ((first | apply wm_done | apply wt_done | apply wg_run | refine fk ?_ ?_) <;> (simp only [go_sem]))) | (first | (refine tr (.op 0 false (.op 1 false (.op 3 false (.op 6 false (.fork 2 false (.op 4 false (.op 5 false (.op 7 false (.op 8 false (.op 9 true .nil))))) (.op 4 false (.op 2 false (.op 5 false (.op 7 false (.op 8 false (.op 9 true .nil))))))))))) [0, 1, 2] follows ?_; (simp only [go_sem])) | fail) | fail)
    all_goals
      ((first | refine kdq [2] ?_ (hc := hm) | refine kmq [2] ?_ (hc := hm) | refine ktq [2] ?_ (hc := hm)); rintro _ _ ⟨y, q4, rfl, hy, hq4, rfl⟩ <;> (simp only [go_sem]))
      have h2 := ofs bs hB q4 (by omega) [nm 120, nm 122, nm 121, nm 120, nm 88, ByteArray.empty] (by decide) (by decide)
      repeat' (first | (first | (((first | apply sp1 | apply sp2 | apply sp3 | apply sp4 | apply sp5 | apply sp6 | apply sp7) <;> intro hb) <;> (simp only [go_sem, hb])) | ((first | apply wm_done | apply wt_done | apply wg_run | refine fk ?_ ?_) <;> (simp only [go_sem]))) | fail)
      ((first | refine kdq [2] ?_ (hc := h2) | refine kmq [2] ?_ (hc := h2) | refine ktq [2] ?_ (hc := h2)); rintro _ _ ⟨s, rfl, hs, rfl⟩ <;> (simp only [go_sem]))
      repeat' (first | (first | (((first | apply sp1 | apply sp2 | apply sp3 | apply sp4 | apply sp5 | apply sp6 | apply sp7) <;> intro hb) <;> (simp only [go_sem, hb])) | ((first | apply wm_done | apply wt_done | apply wg_run | refine fk ?_ ?_) <;> (simp only [go_sem]))) | fail)
      exact hR _ (rat [] (hK := ⟨y, s, v, rfl, by omega, hs, hv, hvc, by omega, rfl⟩))
end Go.Proofs.Ytfgjiamolknicaa
