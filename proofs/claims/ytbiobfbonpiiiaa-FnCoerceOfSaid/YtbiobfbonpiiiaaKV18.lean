/- Texts of the proof, one behind another. -/
import Derived.Test.YtbiobfbonpiiiaaKV15
import Derived.Test.YtbiobfbonpiiiaaKV17
set_option linter.unusedSimpArgs false
set_option linter.unusedVariables false
/- The reference's draws of one coercion and of three. On shadows. -/
namespace Go.Proofs.Ytbiobfbonpiiiaa
open Go.RowKit Go.Proofs.Sh Go.Proofs.Grad
set_option maxRecDepth 100000
set_option maxHeartbeats 8000000
end Go.Proofs.Ytbiobfbonpiiiaa
/- The reference's draws of an identity. On shadows. -/
namespace Go.Proofs.Ytbiobfbonpiiiaa
open Go.RowKit Go.Proofs.Sh Go.Proofs.Grad
set_option maxRecDepth 100000
set_option maxHeartbeats 8000000
end Go.Proofs.Ytbiobfbonpiiiaa
/- Laws: identities are idempotent; labels are preserved. On shadows. -/
namespace Go.Proofs.Grad
theorem K.labsV_co {k : K} (hk : k.ok = true) : k.co.labsV = setL k.labels := by simp [Co.labsV, K.k?_co hk]
theorem Co.labsV_len (c : Co) (h : c.size < 900000) : c.labsV.length < 900000 := by
  unfold Co.labsV
  cases e : c.k? with
  | none => simp
  | some k =>
    obtain ⟨rfl, hk⟩ := Co.k?_some e
    rw [K.co_size] at h
    have := k.labels_len
    have := (setL_spec k.labels).2.2
    simp only []; omega
theorem num_mem {l : List Int} {k : Nat} (h : k < l.length) : Sh.num l k ∈ l := by rw [Sh.num_eq h]; exact List.getElem_mem h
end Go.Proofs.Grad
namespace Go.Proofs.Ytbiobfbonpiiiaa
open Go.RowKit Go.Proofs.Sh Go.Proofs.Grad
set_option maxRecDepth 100000
set_option maxHeartbeats 8000000
end Go.Proofs.Ytbiobfbonpiiiaa
/- The reference's draws of less precise types, and of consistent ones, on shadows. -/
namespace Go.Proofs.Ytbiobfbonpiiiaa
open Go.RowKit Go.Proofs.Sh Go.Proofs.Grad
set_option maxRecDepth 100000
set_option maxHeartbeats 4000000
theorem l1Blur (bs : List Int) (hB : Bs bs) (n : Nat) : ∀ (x : T), x.size < n → ∀ p, p + 30 * x.size < 999990000 → ACl Try.prog 48 [.one (.ptr 2 0 0 0), .agg (tyC x.ty)] [(⟨2, 88, .mut, [[.sl (byR bs), .sc (.int .i64 ((p : Nat) : Int))]]⟩ : Blk)] (DrawsT bs p (30 * x.size) x.depth) := by
  induction n with
  | zero => intro x h; omega
  | succ n ih =>
    intro x hx p hp
    have hk := pick bs hB p (by omega) 4 (by omega) (by omega)
    have p1 := T.size_pos x
    rcases x with _ | _ | _ | ⟨a, b⟩ | ⟨a, b⟩
    · refine acl_in Try.func48 rfl isfn_48 (Nat.le_of_ble_eq_true rfl) (fun R hR => ?_); rw [Try.results48] at hR; refine wg_run ?_; (simp only [Try.f48, go_sem])
      ((first | refine kdq [0] ?_ (hc := hk) | refine kmq [0] ?_ (hc := hk) | refine ktq [0] ?_ (hc := hk)); rintro _ _ ⟨z, rfl, hz, hz1, rfl⟩; (simp only [go_sem]))
      repeat' (first | (first | (((first | apply sp1 | apply sp2 | apply sp3 | apply sp4 | apply sp5 | apply sp6 | apply sp7) <;> intro hb) <;> (simp only [go_sem, hb])) | ((first | apply wm_done | apply wt_done | apply wg_run | refine fk ?_ ?_) <;> (simp only [go_sem]))) | (first | refine cdq ?_ (hc := l1Any) | refine cmq ?_ (hc := l1Any) | refine ctq ?_ (hc := l1Any)); (simp only [go_sem]) | (first | (refine wl_next (wg_run ?_); (simp only [go_sem])) | refine wd_rounds 6 ?_) | ((first | refine mxq6 [0] ?_ | refine mxq5 [0] ?_ | refine mxq4 [0] ?_ | refine mxq3 [0] ?_ | refine mxq2 [0] ?_ | refine mxq1 [0] ?_ | refine mxq0 [0] ?_ | fail); (simp only [go_sem])))
      all_goals exact hR _ (rat [] (hK := ⟨.any, p + 1, rfl, by simp only [T.depth]; omega, by simp only [T.size]; omega, rfl⟩))
    · refine acl_in Try.func48 rfl isfn_48 (Nat.le_of_ble_eq_true rfl) (fun R hR => ?_); rw [Try.results48] at hR; refine wg_run ?_; (simp only [Try.f48, go_sem])
      ((first | refine kdq [0] ?_ (hc := hk) | refine kmq [0] ?_ (hc := hk) | refine ktq [0] ?_ (hc := hk)); rintro _ _ ⟨z, rfl, hz, hz1, rfl⟩; (simp only [go_sem]))
      repeat' (first | (first | (((first | apply sp1 | apply sp2 | apply sp3 | apply sp4 | apply sp5 | apply sp6 | apply sp7) <;> intro hb) <;> (simp only [go_sem, hb])) | ((first | apply wm_done | apply wt_done | apply wg_run | refine fk ?_ ?_) <;> (simp only [go_sem]))) | (first | refine cdq ?_ (hc := l1Any) | refine cmq ?_ (hc := l1Any) | refine ctq ?_ (hc := l1Any)); (simp only [go_sem]) | (first | (refine wl_next (wg_run ?_); (simp only [go_sem])) | refine wd_rounds 6 ?_) | ((first | refine mxq6 [0] ?_ | refine mxq5 [0] ?_ | refine mxq4 [0] ?_ | refine mxq3 [0] ?_ | refine mxq2 [0] ?_ | refine mxq1 [0] ?_ | refine mxq0 [0] ?_ | fail); (simp only [go_sem])))
      · exact hR _ (rat [] (hK := ⟨.any, p + 1, rfl, by simp only [T.depth]; omega, by simp only [T.size]; omega, rfl⟩))
      · exact hR _ (rat [] (hK := ⟨.int, p + 1, rfl, by simp only [T.depth]; omega, by simp only [T.size]; omega, rfl⟩))
    · refine acl_in Try.func48 rfl isfn_48 (Nat.le_of_ble_eq_true rfl) (fun R hR => ?_); rw [Try.results48] at hR; refine wg_run ?_; (simp only [Try.f48, go_sem])
      ((first | refine kdq [0] ?_ (hc := hk) | refine kmq [0] ?_ (hc := hk) | refine ktq [0] ?_ (hc := hk)); rintro _ _ ⟨z, rfl, hz, hz1, rfl⟩; (simp only [go_sem]))
      repeat' (first | (first | (((first | apply sp1 | apply sp2 | apply sp3 | apply sp4 | apply sp5 | apply sp6 | apply sp7) <;> intro hb) <;> (simp only [go_sem, hb])) | ((first | apply wm_done | apply wt_done | apply wg_run | refine fk ?_ ?_) <;> (simp only [go_sem]))) | (first | refine cdq ?_ (hc := l1Any) | refine cmq ?_ (hc := l1Any) | refine ctq ?_ (hc := l1Any)); (simp only [go_sem]) | (first | (refine wl_next (wg_run ?_); (simp only [go_sem])) | refine wd_rounds 6 ?_) | ((first | refine mxq6 [0] ?_ | refine mxq5 [0] ?_ | refine mxq4 [0] ?_ | refine mxq3 [0] ?_ | refine mxq2 [0] ?_ | refine mxq1 [0] ?_ | refine mxq0 [0] ?_ | fail); (simp only [go_sem])))
      · exact hR _ (rat [] (hK := ⟨.any, p + 1, rfl, by simp only [T.depth]; omega, by simp only [T.size]; omega, rfl⟩))
      · exact hR _ (rat [] (hK := ⟨.bool, p + 1, rfl, by simp only [T.depth]; omega, by simp only [T.size]; omega, rfl⟩))
    · simp only [T.size] at hp hx
      refine acl_in Try.func48 rfl isfn_48 (Nat.le_of_ble_eq_true rfl) (fun R hR => ?_); rw [Try.results48] at hR; refine wg_run ?_; (simp only [Try.f48, go_sem])
      ((first | refine kdq [0] ?_ (hc := hk) | refine kmq [0] ?_ (hc := hk) | refine ktq [0] ?_ (hc := hk)); rintro _ _ ⟨z, rfl, hz, hz1, rfl⟩; (simp only [go_sem]))
      repeat' (first | (first | (((first | apply sp1 | apply sp2 | apply sp3 | apply sp4 | apply sp5 | apply sp6 | apply sp7) <;> intro hb) <;> (simp only [go_sem, hb])) | ((first | apply wm_done | apply wt_done | apply wg_run | refine fk ?_ ?_) <;> (simp only [go_sem]))) | (first | refine cdq ?_ (hc := l1Any) | refine cmq ?_ (hc := l1Any) | refine ctq ?_ (hc := l1Any)); (simp only [go_sem]) | (first | (refine wl_next (wg_run ?_); (simp only [go_sem])) | refine wd_rounds 6 ?_) | ((first | refine mxq6 [0] ?_ | refine mxq5 [0] ?_ | refine mxq4 [0] ?_ | refine mxq3 [0] ?_ | refine mxq2 [0] ?_ | refine mxq1 [0] ?_ | refine mxq0 [0] ?_ | fail); (simp only [go_sem])))
      · exact hR _ (rat [] (hK := ⟨.any, p + 1, rfl, by simp only [T.depth]; omega, by simp only [T.size]; omega, rfl⟩))
      · ((first | refine kdq [0] ?_ (hc := ih a (by omega) _ (by omega)) | refine kmq [0] ?_ (hc := ih a (by omega) _ (by omega)) | refine ktq [0] ?_ (hc := ih a (by omega) _ (by omega))); rintro _ _ ⟨x1, p1, rfl, hx1, hp1, rfl⟩; (simp only [go_sem]))
        repeat' (first | (first | (((first | apply sp1 | apply sp2 | apply sp3 | apply sp4 | apply sp5 | apply sp6 | apply sp7) <;> intro hb) <;> (simp only [go_sem, hb])) | ((first | apply wm_done | apply wt_done | apply wg_run | refine fk ?_ ?_) <;> (simp only [go_sem]))) | (first | (refine wl_next (wg_run ?_); (simp only [go_sem])) | refine wd_rounds 6 ?_) | ((first | refine mxq6 [0] ?_ | refine mxq5 [0] ?_ | refine mxq4 [0] ?_ | refine mxq3 [0] ?_ | refine mxq2 [0] ?_ | refine mxq1 [0] ?_ | refine mxq0 [0] ?_ | fail); (simp only [go_sem])))
        ((first | refine kdq [0] ?_ (hc := ih b (by omega) _ (by omega)) | refine kmq [0] ?_ (hc := ih b (by omega) _ (by omega)) | refine ktq [0] ?_ (hc := ih b (by omega) _ (by omega))); rintro _ _ ⟨x2, p2, rfl, hx2, hp2, rfl⟩; (simp only [go_sem]))
        repeat' (first | (first | (((first | apply sp1 | apply sp2 | apply sp3 | apply sp4 | apply sp5 | apply sp6 | apply sp7) <;> intro hb) <;> (simp only [go_sem, hb])) | ((first | apply wm_done | apply wt_done | apply wg_run | refine fk ?_ ?_) <;> (simp only [go_sem]))) | (first | (refine wl_next (wg_run ?_); (simp only [go_sem])) | refine wd_rounds 6 ?_) | ((first | refine mxq6 [0] ?_ | refine mxq5 [0] ?_ | refine mxq4 [0] ?_ | refine mxq3 [0] ?_ | refine mxq2 [0] ?_ | refine mxq1 [0] ?_ | refine mxq0 [0] ?_ | fail); (simp only [go_sem])))
        exact hR _ (rat [] (hK := ⟨.fn x1 x2, p2, rfl, by simp only [T.depth]; omega, by simp only [T.size]; omega, rfl⟩))
    · simp only [T.size] at hp hx
      refine acl_in Try.func48 rfl isfn_48 (Nat.le_of_ble_eq_true rfl) (fun R hR => ?_); rw [Try.results48] at hR; refine wg_run ?_; (simp only [Try.f48, go_sem])
      ((first | refine kdq [0] ?_ (hc := hk) | refine kmq [0] ?_ (hc := hk) | refine ktq [0] ?_ (hc := hk)); rintro _ _ ⟨z, rfl, hz, hz1, rfl⟩; (simp only [go_sem]))
      repeat' (first | (first | (((first | apply sp1 | apply sp2 | apply sp3 | apply sp4 | apply sp5 | apply sp6 | apply sp7) <;> intro hb) <;> (simp only [go_sem, hb])) | ((first | apply wm_done | apply wt_done | apply wg_run | refine fk ?_ ?_) <;> (simp only [go_sem]))) | (first | refine cdq ?_ (hc := l1Any) | refine cmq ?_ (hc := l1Any) | refine ctq ?_ (hc := l1Any)); (simp only [go_sem]) | (first | (refine wl_next (wg_run ?_); (simp only [go_sem])) | refine wd_rounds 6 ?_) | ((first | refine mxq6 [0] ?_ | refine mxq5 [0] ?_ | refine mxq4 [0] ?_ | refine mxq3 [0] ?_ | refine mxq2 [0] ?_ | refine mxq1 [0] ?_ | refine mxq0 [0] ?_ | fail); (simp only [go_sem])))
      · exact hR _ (rat [] (hK := ⟨.any, p + 1, rfl, by simp only [T.depth]; omega, by simp only [T.size]; omega, rfl⟩))
      · ((first | refine kdq [0] ?_ (hc := ih a (by omega) _ (by omega)) | refine kmq [0] ?_ (hc := ih a (by omega) _ (by omega)) | refine ktq [0] ?_ (hc := ih a (by omega) _ (by omega))); rintro _ _ ⟨x1, p1, rfl, hx1, hp1, rfl⟩; (simp only [go_sem]))
        repeat' (first | (first | (((first | apply sp1 | apply sp2 | apply sp3 | apply sp4 | apply sp5 | apply sp6 | apply sp7) <;> intro hb) <;> (simp only [go_sem, hb])) | ((first | apply wm_done | apply wt_done | apply wg_run | refine fk ?_ ?_) <;> (simp only [go_sem]))) | (first | (refine wl_next (wg_run ?_); (simp only [go_sem])) | refine wd_rounds 6 ?_) | ((first | refine mxq6 [0] ?_ | refine mxq5 [0] ?_ | refine mxq4 [0] ?_ | refine mxq3 [0] ?_ | refine mxq2 [0] ?_ | refine mxq1 [0] ?_ | refine mxq0 [0] ?_ | fail); (simp only [go_sem])))
        ((first | refine kdq [0] ?_ (hc := ih b (by omega) _ (by omega)) | refine kmq [0] ?_ (hc := ih b (by omega) _ (by omega)) | refine ktq [0] ?_ (hc := ih b (by omega) _ (by omega))); rintro _ _ ⟨x2, p2, rfl, hx2, hp2, rfl⟩; (simp only [go_sem]))
        repeat' (first | (first | (((first | apply sp1 | apply sp2 | apply sp3 | apply sp4 | apply sp5 | apply sp6 | apply sp7) <;> intro hb) <;> (simp only [go_sem, hb])) | ((first | apply wm_done | apply wt_done | apply wg_run | refine fk ?_ ?_) <;> (simp only [go_sem]))) | (first | (refine wl_next (wg_run ?_); (simp only [go_sem])) | refine wd_rounds 6 ?_) | ((first | refine mxq6 [0] ?_ | refine mxq5 [0] ?_ | refine mxq4 [0] ?_ | refine mxq3 [0] ?_ | refine mxq2 [0] ?_ | refine mxq1 [0] ?_ | refine mxq0 [0] ?_ | fail); (simp only [go_sem])))
        exact hR _ (rat [] (hK := ⟨.pr x1 x2, p2, rfl, by simp only [T.depth]; omega, by simp only [T.size]; omega, rfl⟩))
theorem dConsistent (l : List Int) (hl : Code8 l) : ACl Try.prog 13 [.one (.sl (byR l))] [] Pair2 := by
  have ho := opn l hl.len hl.all
  refine acl_in Try.func13 rfl isfn_13 (Nat.le_of_ble_eq_true rfl) (fun R hR => ?_); rw [Try.results13] at hR; refine wg_run ?_; (simp only [Try.f13, go_sem])
  ((first | refine kdq [] ?_ (hc := ho) | refine kmq [] ?_ (hc := ho) | refine ktq [] ?_ (hc := ho)); rintro _ _ ⟨bs, hB, rfl, rfl⟩ <;> (simp only [go_sem]))
  have ht := l1Type bs hB 0 (by omega)
  repeat' (first | (first | (((first | apply sp1 | apply sp2 | apply sp3 | apply sp4 | apply sp5 | apply sp6 | apply sp7) <;> intro hb) <;> (simp only [go_sem, hb])) | ((first | apply wm_done | apply wt_done | apply wg_run | refine fk ?_ ?_) <;> (simp only [go_sem]))) | (first | fail))
  ((first | refine kdq [2] ?_ (hc := ht) | refine kmq [2] ?_ (hc := ht) | refine ktq [2] ?_ (hc := ht)); rintro _ _ ⟨x, p, rfl, hx, hp, rfl⟩ <;> (simp only [go_sem]))
  have hx2 := tys 4 x hx
  have hk := pick bs hB p (by omega) 3 (by omega) (by omega)
  repeat' (first | (first | (((first | apply sp1 | apply sp2 | apply sp3 | apply sp4 | apply sp5 | apply sp6 | apply sp7) <;> intro hb) <;> (simp only [go_sem, hb])) | ((first | apply wm_done | apply wt_done | apply wg_run | refine fk ?_ ?_) <;> (simp only [go_sem]))) | (first | fail))
  ((first | refine kdq [2] ?_ (hc := hk) | refine kmq [2] ?_ (hc := hk) | refine ktq [2] ?_ (hc := hk)); rintro _ _ ⟨z, rfl, hz, hz1, rfl⟩ <;> (simp only [go_sem]))
  repeat' (first | (first | (((first | apply sp1 | apply sp2 | apply sp3 | apply sp4 | apply sp5 | apply sp6 | apply sp7) <;> intro hb) <;> (simp only [go_sem, hb])) | ((first | apply wm_done | apply wt_done | apply wg_run | refine fk ?_ ?_) <;> (simp only [go_sem]))) | (first | fail) | (refine wd_mix 2 [2] follows (by kernel_rfl) (by (simp only [go_sem]); first | done | rfl) ?_; (simp only [go_sem])))
  · have hm := l1Mutate bs hB (p + 1) (by omega) x.ty (by rw [T.ty_size]; omega)
    rw [T.ty_size] at hm
    ((first | refine kdq [2] ?_ (hc := hm) | refine kmq [2] ?_ (hc := hm) | refine ktq [2] ?_ (hc := hm)); rintro _ _ ⟨y, q, rfl, hy, hq, rfl⟩ <;> (simp only [go_sem]))
    repeat' (first | (first | (((first | apply sp1 | apply sp2 | apply sp3 | apply sp4 | apply sp5 | apply sp6 | apply sp7) <;> intro hb) <;> (simp only [go_sem, hb])) | ((first | apply wm_done | apply wt_done | apply wg_run | refine fk ?_ ?_) <;> (simp only [go_sem]))) | (first | fail) | (refine wd_mix 2 [2] follows (by kernel_rfl) (by (simp only [go_sem]); first | done | rfl) ?_; (simp only [go_sem])))
    have ht := l1Type bs hB q (by omega)
    ((first | refine kdq [2] ?_ (hc := ht) | refine kmq [2] ?_ (hc := ht) | refine ktq [2] ?_ (hc := ht)); rintro _ _ ⟨u, r, rfl, hu, hr, rfl⟩ <;> (simp only [go_sem]))
    have hu2 := tys 4 u hu
    repeat' (first | (first | (((first | apply sp1 | apply sp2 | apply sp3 | apply sp4 | apply sp5 | apply sp6 | apply sp7) <;> intro hb) <;> (simp only [go_sem, hb])) | ((first | apply wm_done | apply wt_done | apply wg_run | refine fk ?_ ?_) <;> (simp only [go_sem]))) | (first | fail) | (refine wd_mix 2 [2] follows (by kernel_rfl) (by (simp only [go_sem]); first | done | rfl) ?_; (simp only [go_sem])))
    exact hR _ (rat [] (hK := ⟨y, u.ty, rfl, by omega, by rw [T.ty_size]; omega, rfl⟩))
  · have hb1 := l1Blur bs hB (x.size + 1) x (by omega) (p + 1) (by omega)
    ((first | refine kdq [2] ?_ (hc := hb1) | refine kmq [2] ?_ (hc := hb1) | refine ktq [2] ?_ (hc := hb1)); rintro _ _ ⟨y, q, rfl, hy, hq, rfl⟩ <;> (simp only [go_sem]))
    have hy2 := tys 4 y (by omega)
    have hm := l1Mutate bs hB q (by omega) y.ty (by rw [T.ty_size]; omega)
    rw [T.ty_size] at hm
    repeat' (first | (first | (((first | apply sp1 | apply sp2 | apply sp3 | apply sp4 | apply sp5 | apply sp6 | apply sp7) <;> intro hb) <;> (simp only [go_sem, hb])) | ((first | apply wm_done | apply wt_done | apply wg_run | refine fk ?_ ?_) <;> (simp only [go_sem]))) | (first | fail) | (refine wd_mix 2 [2] follows (by kernel_rfl) (by (simp only [go_sem]); first | done | rfl) ?_; (simp only [go_sem])))
    ((first | refine kdq [2] ?_ (hc := hm) | refine kmq [2] ?_ (hc := hm) | refine ktq [2] ?_ (hc := hm)); rintro _ _ ⟨v, r, rfl, hv, hr, rfl⟩ <;> (simp only [go_sem]))
    have hb2 := l1Blur bs hB (x.size + 1) x (by omega) r (by omega)
    repeat' (first | (first | (((first | apply sp1 | apply sp2 | apply sp3 | apply sp4 | apply sp5 | apply sp6 | apply sp7) <;> intro hb) <;> (simp only [go_sem, hb])) | ((first | apply wm_done | apply wt_done | apply wg_run | refine fk ?_ ?_) <;> (simp only [go_sem]))) | (first | fail) | (refine wd_mix 2 [2] follows (by kernel_rfl) (by (simp only [go_sem]); first | done | rfl) ?_; (simp only [go_sem])))
    ((first | refine kdq [2] ?_ (hc := hb2) | refine kmq [2] ?_ (hc := hb2) | refine ktq [2] ?_ (hc := hb2)); rintro _ _ ⟨w, s, rfl, hw, hs, rfl⟩ <;> (simp only [go_sem]))
    have hw2 := tys 4 w (by omega)
    repeat' (first | (first | (((first | apply sp1 | apply sp2 | apply sp3 | apply sp4 | apply sp5 | apply sp6 | apply sp7) <;> intro hb) <;> (simp only [go_sem, hb])) | ((first | apply wm_done | apply wt_done | apply wg_run | refine fk ?_ ?_) <;> (simp only [go_sem]))) | (first | fail) | (refine wd_mix 2 [2] follows (by kernel_rfl) (by (simp only [go_sem]); first | done | rfl) ?_; (simp only [go_sem])))
    exact hR _ (rat [] (hK := ⟨v, w.ty, rfl, by omega, by rw [T.ty_size]; omega, rfl⟩))
end Go.Proofs.Ytbiobfbonpiiiaa
