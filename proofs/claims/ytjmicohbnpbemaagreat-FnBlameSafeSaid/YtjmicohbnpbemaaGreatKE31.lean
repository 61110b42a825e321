/- Texts of the proof, one behind another. -/
import Derived.Test.YtjmicohbnpbemaaGreatKE27
import Derived.Test.YtjmicohbnpbemaaGreatKE30
set_option linter.unusedSimpArgs false
set_option linter.unusedVariables false
/- Blame: terms as they come. No program, no world. -/
namespace Go.Proofs.Grad
theorem E.safe_tm (l : Int) (e : E) (h : e.wf = true) : e.tm.safeB l = e.safe l := by
  have one : ∀ k a, (k == (14 : Int)) = false → (nd k [a]).safeB l = a.safeB l := by
    intro k a hk; simp [Tm.safeB, nd, Tm.castsL, Tm.castsLs, ownCast, Tm.kind, hk]
  have two : ∀ k a b, (k == (14 : Int)) = false → (nd k [a, b]).safeB l = (a.safeB l && b.safeB l) := by
    intro k a b hk; simp [Tm.safeB, nd, Tm.castsL, Tm.castsLs, ownCast, Tm.kind, hk]
  induction e with
  | var _ | num _ | tru | fls => simp [E.tm, nd, Tm.safeB, Tm.castsL, Tm.castsLs, ownCast, Tm.kind, E.safe]
  | lam x t a ih =>
    simp only [E.wf, Bool.and_eq_true] at h
    rw [E.safe, ← ih h.2.2]
    simp [E.tm, Tm.safeB, Tm.castsL, Tm.castsLs, ownCast, Tm.kind]
  | fst a ih => simp only [E.wf] at h; rw [E.safe, ← ih h]; exact one 11 _ rfl
  | snd a ih => simp only [E.wf] at h; rw [E.safe, ← ih h]; exact one 12 _ rfl
  | app a b iha ihb => simp only [E.wf, Bool.and_eq_true] at h; rw [E.safe, ← iha h.1, ← ihb h.2]; exact two 6 _ _ rfl
  | add a b iha ihb => simp only [E.wf, Bool.and_eq_true] at h; rw [E.safe, ← iha h.1, ← ihb h.2]; exact two 7 _ _ rfl
  | less a b iha ihb => simp only [E.wf, Bool.and_eq_true] at h; rw [E.safe, ← iha h.1, ← ihb h.2]; exact two 8 _ _ rfl
  | pair a b iha ihb => simp only [E.wf, Bool.and_eq_true] at h; rw [E.safe, ← iha h.1, ← ihb h.2]; exact two 10 _ _ rfl
  | ite a b c iha ihb ihc =>
    simp only [E.wf, Bool.and_eq_true] at h
    rw [E.safe, ← iha h.1, ← ihb h.2.1, ← ihc h.2.2]
    simp [E.tm, nd, Tm.safeB, Tm.castsL, Tm.castsLs, ownCast, Tm.kind]
  | asc t a ih =>
    simp only [E.wf, Bool.and_eq_true] at h
    rw [E.safe, ← ih h.2]
    simp [E.tm, Tm.safeB, Tm.castsL, Tm.castsLs, ownCast, Tm.kind]
  | cast s t k a ih =>
    simp only [E.wf, Bool.and_eq_true, decide_eq_true_eq] at h
    rw [E.safe, ← ih h.2.2.2]
    have hu := unsB_cast h.1.1 h.1.2 k l a
    have hc : (E.cast s t k a).tm.castsL = (E.cast s t k a).tm :: a.tm.castsL := by simp [E.tm, Tm.castsL, Tm.castsLs, ownCast, Tm.kind]
    simp only [Tm.safeB, hc, List.any_cons, hu, uns, Bool.not_or]
theorem Tm.labs_of {e : E} (h : e.okC = true) : e.tm.labsV = setL e.labs := by
  have h' : e.tm.castV = true := by rw [E.castV_tm]; exact h
  unfold Tm.labsV
  rw [h', E.labs_tm]
theorem Tm.mem_labs {e : E} (h : e.okC = true) (z : Int) : z ∈ e.tm.labsV ↔ z ∈ e.labs := by rw [Tm.labs_of h]; exact (setL_spec _).2.1 z
theorem Tm.mem_uns {e : E} (h : e.okC = true) (z : Int) : z ∈ e.tm.unsV ↔ e.safe z = false ∧ (z ∈ e.labs ∨ -z ∈ e.labs) := by
  have h' : e.tm.castV = true := by rw [E.castV_tm]; exact h
  unfold Tm.unsV
  rw [h']
  simp only []
  rw [E.labs_tm, (setL_spec _).2.1 z, mem_unsL, E.safe_tm z e (E.wf_ok h)]
theorem Tm.labsV_bd (t : Tm) : t.labsV.length ≤ 200 ∧ ∀ z ∈ t.labsV, -99 ≤ z ∧ z ≤ 99 := by
  cases hc : t.castV with
  | false => unfold Tm.labsV; rw [hc]; exact ⟨by simp, by simp⟩
  | true =>
    obtain ⟨e, rfl, ho⟩ := Tm.castV_E hc
    refine ⟨?_, fun z hz => ?_⟩
    · rw [Tm.labs_of ho]
      have := (setL_spec e.labs).2.2
      have := e.labs_nodes ho
      omega
    · exact lab_bd (e.labs_ok (E.wf_ok ho) z ((Tm.mem_labs ho z).1 hz))
theorem Tm.unsV_len (t : Tm) : t.unsV.length ≤ 400 := by
  cases hc : t.castV with
  | false => unfold Tm.unsV; rw [hc]; simp
  | true =>
    obtain ⟨e, rfl, ho⟩ := Tm.castV_E hc
    unfold Tm.unsV
    rw [hc, E.labs_tm]
    have h1 := (setL_spec (unsL e.tm.safeB e.labs)).2.2
    have h2 := unsL_len e.tm.safeB e.labs
    have h3 := e.labs_nodes ho
    simp only []
    omega
theorem SC.of_step {e : E} {b : Int} (h : e.sc = .blame b) : e.val = false ∧ e.step = .blame b := by
  unfold E.sc at h
  split at h
  · cases h
  · rename_i hv
    refine ⟨hv, ?_⟩
    split at h
    · split at h <;> cases h
    · rename_i hs; cases h; exact hs
    · cases h
theorem evI_labs (k : Nat) : ∀ (e : E) (n : Nat) (b : Int), (e.evI k n).1 = .blame b → b ∈ e.labs ∨ -b ∈ e.labs := by
  have one : ∀ (e : E) (b : Int), e.sc = .blame b → b ∈ e.labs ∨ -b ∈ e.labs := by
    intro e b hb
    have h1 := step_labs e
    rw [(SC.of_step hb).2] at h1
    exact h1
  induction k with
  | zero => intro e n b h; exact one e b h
  | succ k ih =>
    intro e n b h
    simp only [E.evI] at h
    split at h
    · rename_i x hx
      have h1 := step_labs e
      rw [(E.sc_took hx).2.1] at h1
      rcases ih x (n + 1) b h with h2 | h2
      · exact h1 b h2
      · rcases h1 (-b) h2 with h3 | h3
        · exact .inr h3
        · rw [Int.neg_neg] at h3; exact .inl h3
    · exact one e b h
/-- a safe label is not blamed -/
theorem Tm.blame_safe {x : Tm} {l f b : Int} (h : x.safeV l = true) (hb : x.evalV f = .blame b) : (b != l) = true := by
  unfold Tm.safeV at h
  simp only [Bool.and_eq_true] at h
  obtain ⟨e, rfl, ho⟩ := Tm.castV_E h.1
  have hw := E.wf_ok ho
  rw [E.safe_tm l e hw] at h
  have hn : e.noA = true := by simp only [E.okC, Bool.and_eq_true] at ho; exact ho.2.1
  cases hf : (decide (0 ≤ f) && decide (f ≤ 300)) with
  | false => rw [Tm.evalV_off _ hf] at hb; cases hb
  | true =>
    simp only [Bool.and_eq_true, decide_eq_true_eq] at hf
    obtain ⟨k, rfl⟩ := Int.eq_ofNat_of_zero_le hf.1
    rw [Tm.evalV_E ho k (by omega)] at hb
    have := evI_safe l k e 0 hw hn h.2.2 b hb
    simpa using this
/-- a label that is blamed is not safe -/
theorem Tm.blame_uns {x : Tm} {f b : Int} (hb : x.evalV f = .blame b) : b ∈ x.unsV := by
  cases hc : x.castV with
  | false => rw [Tm.evalV_bad hc] at hb; cases hb
  | true =>
    obtain ⟨e, rfl, ho⟩ := Tm.castV_E hc
    have hw := E.wf_ok ho
    have hn : e.noA = true := by simp only [E.okC, Bool.and_eq_true] at ho; exact ho.2.1
    cases hf : (decide (0 ≤ f) && decide (f ≤ 300)) with
    | false => rw [Tm.evalV_off _ hf] at hb; cases hb
    | true =>
      simp only [Bool.and_eq_true, decide_eq_true_eq] at hf
      obtain ⟨k, rfl⟩ := Int.eq_ofNat_of_zero_le hf.1
      rw [Tm.evalV_E ho k (by omega)] at hb
      rw [Tm.mem_uns ho]
      refine ⟨?_, evI_labs k e 0 b hb⟩
      cases hs : e.safe b with
      | false => rfl
      | true => exact absurd rfl (evI_safe b k e 0 hw hn hs b hb)
theorem any_take_succ {l : List Int} {k : Nat} (p : Int → Bool) (h : k < l.length) : (l.take (k + 1)).any p = ((l.take k).any p || p (Sh.num l k)) := by
  rw [Sh.num_eq h, List.take_succ_eq_append_getElem h, List.any_append]; simp
theorem any_all {l : List Int} {p : Int → Bool} {z : Int} (hz : z ∈ l) (hp : p z = true) : (l.take l.length).any p = true := by
  rw [List.take_length, List.any_eq_true]; exact ⟨z, hz, hp⟩
end Go.Proofs.Grad
/- The labels of a term's casts, in the program; a draw with a label. On shadows. -/
namespace Go.Proofs.YtjmicohbnpbemaaGreat
open Go.RowKit Go.Proofs.Sh Go.Proofs.Grad
set_option maxRecDepth 100000
set_option maxHeartbeats 8000000
theorem dSafeFor (l : List Int) (hl : Code8 l) : ACl Tryz.prog 31 [.one (.sl (byR l))] [] OneXI := by
  have ho := opn l hl.len hl.all
  refine acl_in Tryz.func31 rfl isfn_31 (Nat.le_of_ble_eq_true rfl) (fun R hR => ?_); rw [Tryz.results31] at hR; refine wg_run ?_; (simp only [Tryz.f31, go_sem])
  ((first | refine kdq [] ?_ (hc := ho) | refine kmq [] ?_ (hc := ho) | refine ktq [] ?_ (hc := ho)); rintro _ _ ⟨bs, hB, rfl, rfl⟩ <;> (simp only [go_sem]))
  have ht := l4Random bs hB 0 (by omega)
  repeat' (first | (first | (((first | apply sp1 | apply sp2 | apply sp3 | apply sp4 | apply sp5 | apply sp6 | apply sp7) <;> intro hb) <;> (simp only [go_sem, hb])) | ((first | apply wm_done | apply wt_done | apply wg_run | refine fk ?_ ?_) <;> (simp only [go_sem]))) | fail)
  ((first | refine kdq [1] ?_ (hc := ht) | refine kmq [1] ?_ (hc := ht) | refine ktq [1] ?_ (hc := ht)); rintro _ _ ⟨x, p, rfl, hx, hp, rfl⟩ <;> (simp only [go_sem]))
  have hm := l4Mutate bs hB p (by omega) x (by omega)
  repeat' (first | (first | (((first | apply sp1 | apply sp2 | apply sp3 | apply sp4 | apply sp5 | apply sp6 | apply sp7) <;> intro hb) <;> (simp only [go_sem, hb])) | ((first | apply wm_done | apply wt_done | apply wg_run | refine fk ?_ ?_) <;> (simp only [go_sem]))) | fail)
  ((first | refine kdq [1] ?_ (hc := hm) | refine kmq [1] ?_ (hc := hm) | refine ktq [1] ?_ (hc := hm)); rintro _ _ ⟨y, q, rfl, hy, hq, rfl⟩ <;> (simp only [go_sem]))
  have hla := sCastLabels y (by omega)
  obtain ⟨hl1, hl2⟩ := y.labsV_bd
  generalize y.labsV = L at *
  have hk4 := fun q (hq : q < 999990000) => pick bs hB q (by omega) 4 (by omega) (by omega)
  have hk2 := fun q (hq : q < 999990000) => pick bs hB q (by omega) 2 (by omega) (by omega)
  have hkL := fun q (hq : q < 999990000) => pick bs hB q (by omega) (L.length : Nat) (by omega) (by omega)
  have hnu := fun q (hq : q < 999990000) => num bs hB q (by omega) [1, -1, 51, 0, 100, -9223372036854775808] (by decide) (by decide)
  by_cases hL : 0 < L.length
  · have b0 : decide (((L.length : Nat) : Int) > 0) = true := decide_eq_true (by omega)
    repeat' (first | (first | (simp only [go_sem, b0]) | (((first | apply sp1 | apply sp2 | apply sp3 | apply sp4 | apply sp5 | apply sp6 | apply sp7) <;> intro hb) <;> (simp only [go_sem, hb, b0])) | ((first | apply wm_done | apply wt_done | apply wg_run | refine fk ?_ ?_) <;> (simp only [go_sem, b0]))) | (first | refine cdq ?_ (hc := hla) | refine cmq ?_ (hc := hla) | refine ctq ?_ (hc := hla)); (simp only [go_sem]) | fail)
    ((first | refine kdq [1] ?_ (hc := hk4 _ (by omega)) | refine kmq [1] ?_ (hc := hk4 _ (by omega)) | refine ktq [1] ?_ (hc := hk4 _ (by omega))); rintro _ _ ⟨z, rfl, hz, hz1, rfl⟩ <;> (simp only [go_sem]))
    repeat' (first | (first | (simp only [go_sem, b0]) | (((first | apply sp1 | apply sp2 | apply sp3 | apply sp4 | apply sp5 | apply sp6 | apply sp7) <;> intro hb) <;> (simp only [go_sem, hb, b0])) | ((first | apply wm_done | apply wt_done | apply wg_run | refine fk ?_ ?_) <;> (simp only [go_sem, b0]))) | fail)
    · ((first | refine kdq [1] ?_ (hc := hkL _ (by omega)) | refine kmq [1] ?_ (hc := hkL _ (by omega)) | refine ktq [1] ?_ (hc := hkL _ (by omega))); rintro _ _ ⟨k, rfl, hk, hk1, rfl⟩ <;> (simp only [go_sem]))
      obtain ⟨k, rfl⟩ := Int.eq_ofNat_of_zero_le hk
      have hkl : k < L.length := by omega
      have b1 : decide ((k : Int) < ((L.length : Nat) : Int)) = true := decide_eq_true (by omega)
      have b2 : decide ((0 : Int) ≤ (k : Int)) = true := decide_eq_true (by omega)
      have hbd := hl2 _ (num_mem hkl)
      have hw : IntKind.i64.wrap (0 - Sh.num L k) = -Sh.num L k := by rw [IntWalk.i64_in _ (by omega)]; omega
      repeat' (first | (first | (simp only [go_sem, b0, b1, b2]) | (((first | apply sp1 | apply sp2 | apply sp3 | apply sp4 | apply sp5 | apply sp6 | apply sp7) <;> intro hb) <;> (simp only [go_sem, hb, b0, b1, b2])) | ((first | apply wm_done | apply wt_done | apply wg_run | refine fk ?_ ?_) <;> (simp only [go_sem, b0, b1, b2]))) | fail)
      ((first | refine kdq [1] ?_ (hc := hk2 _ (by omega)) | refine kmq [1] ?_ (hc := hk2 _ (by omega)) | refine ktq [1] ?_ (hc := hk2 _ (by omega))); rintro _ _ ⟨z3, rfl, hz3, hz4, rfl⟩ <;> (simp only [go_sem]))
      repeat' (first | (first | (simp only [go_sem, b0, b1, b2, hw]) | (((first | apply sp1 | apply sp2 | apply sp3 | apply sp4 | apply sp5 | apply sp6 | apply sp7) <;> intro hb) <;> (simp only [go_sem, hb, b0, b1, b2, hw])) | ((first | apply wm_done | apply wt_done | apply wg_run | refine fk ?_ ?_) <;> (simp only [go_sem, b0, b1, b2, hw]))) | fail)
      · exact hR _ (rat [] (hK := ⟨y, -Sh.num L k, rfl, by omega, by omega, by omega, rfl⟩))
      · exact hR _ (rat [] (hK := ⟨y, Sh.num L k, rfl, by omega, by omega, by omega, rfl⟩))
    · repeat' (first | (first | (simp only [go_sem, b0]) | (((first | apply sp1 | apply sp2 | apply sp3 | apply sp4 | apply sp5 | apply sp6 | apply sp7) <;> intro hb) <;> (simp only [go_sem, hb, b0])) | ((first | apply wm_done | apply wt_done | apply wg_run | refine fk ?_ ?_) <;> (simp only [go_sem, b0]))) | (refine wd_mix 2 [1] follows (by kernel_rfl) (by (simp only [go_sem]); first | done | rfl) ?_; (simp only [go_sem])) | fail)
      ((first | refine kdq [1] ?_ (hc := hnu _ (by omega)) | refine kmq [1] ?_ (hc := hnu _ (by omega)) | refine ktq [1] ?_ (hc := hnu _ (by omega))); rintro _ _ ⟨z2, rfl, hz2, rfl⟩ <;> (simp only [go_sem]))
      repeat' (first | (first | (((first | apply sp1 | apply sp2 | apply sp3 | apply sp4 | apply sp5 | apply sp6 | apply sp7) <;> intro hb) <;> (simp only [go_sem, hb])) | ((first | apply wm_done | apply wt_done | apply wg_run | refine fk ?_ ?_) <;> (simp only [go_sem]))) | fail)
      simp only [List.mem_cons, List.not_mem_nil, or_false] at hz2
      exact hR _ (rat [] (hK := ⟨y, z2, rfl, by omega, by omega, by omega, rfl⟩))
  · have b0 : decide (((L.length : Nat) : Int) > 0) = false := decide_eq_false (by omega)
    repeat' (first | (first | (simp only [go_sem, b0]) | (((first | apply sp1 | apply sp2 | apply sp3 | apply sp4 | apply sp5 | apply sp6 | apply sp7) <;> intro hb) <;> (simp only [go_sem, hb, b0])) | ((first | apply wm_done | apply wt_done | apply wg_run | refine fk ?_ ?_) <;> (simp only [go_sem, b0]))) | (first | refine cdq ?_ (hc := hla) | refine cmq ?_ (hc := hla) | refine ctq ?_ (hc := hla)); (simp only [go_sem]) | (refine wd_mix 2 [1] follows (by kernel_rfl) (by (simp only [go_sem]); first | done | rfl) ?_; (simp only [go_sem])) | fail)
    ((first | refine kdq [1] ?_ (hc := hnu _ (by omega)) | refine kmq [1] ?_ (hc := hnu _ (by omega)) | refine ktq [1] ?_ (hc := hnu _ (by omega))); rintro _ _ ⟨z2, rfl, hz2, rfl⟩ <;> (simp only [go_sem]))
    repeat' (first | (first | (((first | apply sp1 | apply sp2 | apply sp3 | apply sp4 | apply sp5 | apply sp6 | apply sp7) <;> intro hb) <;> (simp only [go_sem, hb])) | ((first | apply wm_done | apply wt_done | apply wg_run | refine fk ?_ ?_) <;> (simp only [go_sem]))) | fail)
    simp only [List.mem_cons, List.not_mem_nil, or_false] at hz2
    exact hR _ (rat [] (hK := ⟨y, z2, rfl, by omega, by omega, by omega, rfl⟩))
end Go.Proofs.YtjmicohbnpbemaaGreat
