/- Texts of the proof, one behind another. -/
import Derived.Test.YtchcbfbnffhifaaKW9
import Derived.Test.YtchcbfbnffhifaaKW11
import Derived.Test.YtchcbfbnffhifaaKW12
set_option linter.unusedSimpArgs false
set_option linter.unusedVariables false
/- Terms: validity in the reference, on shadows. -/
namespace Go.Proofs.Ytchcbfbnffhifaa
open Go.RowKit Go.Proofs.Sh Go.Proofs.Grad
set_option maxRecDepth 100000
set_option maxHeartbeats 8000000
theorem l2Count (n : Nat) (hn : n ≤ 4611686018427387904) : ∀ (t : Tm) (no : Int) (m : Nat), m ≤ 100 → t.size < n → t.shape no m = true → AFn Try.prog 100 [.agg (teC t), .one (.sc (.int .i64 (m : Nat)))] (.one (.sc (.int .i64 (t.nodes : Nat)))) := by
  induction n with
  | zero => intro t no m _ h; omega
  | succ n ih =>
    intro t no m hm h hs
    obtain ⟨m, rfl⟩ : ∃ k, m = k + 1 := by cases m with | zero => simp [Tm.shape] at hs | succ k => exact ⟨k, rfl⟩
    have hl := telen_lt t
    have hnl := t.nodes_le
    have hne := t.nodes_eq
    have hd : decide (((m + 1 : Nat) : Int) > 0) = true := by simp only [decide_eq_true_eq]; omega
    have hw : IntKind.i64.wrap (((m + 1 : Nat) : Int) - 1) = (m : Int) := by rw [IntWalk.i64_in _ (by omega)]; omega
    simp only [Tm.shape_succ, Bool.and_eq_true, List.all_eq_true] at hs
    refine fn_in ?_; refine acl_in Try.func100 rfl isfn_100 (Nat.le_of_ble_eq_true rfl) (fun R hR => ?_); rw [Try.results100] at hR; refine wg_run ?_; (simp only [Try.f100, go_sem, hd])
    refine wd_for [1, 2, 5, 6] (fun k => [.one (.sc (.int .i64 ((m + 1 : Nat) : Int))), .one (.ptr 9 0 0 0), .one (.sc (.int .i64 ((1 + Tm.nodess (t.kids.take k) : Nat) : Int))), .one (.sc (.int .i64 (k : Nat)))]) (fun k => [⟨9, 35, .mut, [teC t]⟩])
      (fun k => k ≤ t.kids.length) (fun k => t.kids.length - k) 0 (Nat.zero_le _) (hat [0] (hI := ⟨rfl, rfl⟩)) ?_
    rintro k hk G hG
    refine wg_run ?_
    (simp only [go_sem, hd])
    ((first | apply sp1 | apply sp2 | apply sp3 | apply sp4 | apply sp5 | apply sp6 | apply sp7) <;> intro hb) <;> (simp only [go_sem, hb, hd])
    · have hk1 : k < t.kids.length := by have := of_decide_eq_true hb; omega
      have hw1 := wrap_succ hk1 (by omega)
      have hle := Tm.nodess_le_take t.kids (k + 1)
      rw [Tm.nodess_take hk1] at hle
      have hw2 : IntKind.i64.wrap (((1 + Tm.nodess (t.kids.take k) : Nat) : Int) + ((teKid t.kids k).nodes : Int)) = ((1 + Tm.nodess (t.kids.take (k + 1)) : Nat) : Int) := by
        rw [Tm.nodess_take hk1, IntWalk.i64_in _ (by omega)]; omega
      have hc := ih (by omega) (teKid t.kids k) no m (by omega) (by have := teKid_lt hk1; omega) (hs.2.2 _ (by rw [teKid_eq hk1]; exact List.getElem_mem hk1))
      repeat' (first | (first | (simp only [go_sem, hd, hw, hw1, hw2, hb]) | (((first | apply sp1 | apply sp2 | apply sp3 | apply sp4 | apply sp5 | apply sp6 | apply sp7) <;> intro hb) <;> (simp only [go_sem, hb, hd, hw, hw1, hw2, hb])) | ((first | apply wm_done | apply wt_done | apply wg_run | refine fk ?_ ?_) <;> (simp only [go_sem, hd, hw, hw1, hw2, hb]))) | (first | refine cdq ?_ (hc := hc) | refine cmq ?_ (hc := hc) | refine ctq ?_ (hc := hc)); (simp only [go_sem]) | ((first | refine mxq6 [] ?_ | refine mxq5 [] ?_ | refine mxq4 [] ?_ | refine mxq3 [] ?_ | refine mxq2 [] ?_ | refine mxq1 [] ?_ | refine mxq0 [] ?_ | fail); (simp only [go_sem, hb])))
      exact hG (k + 1) _ _ (by omega) (by omega) (hat [0] (hI := ⟨rfl, rfl⟩))
    · have hk1 : t.kids.take k = t.kids := List.take_of_length_le (by have := of_decide_eq_false hb; omega)
      rw [hk1, ← hne]
      (refine hR _ (rat [] (hK := ⟨rfl, rfl⟩)))

theorem l2Shape (n : Nat) (hn : n ≤ 4611686018427387904) : ∀ (t : Tm) (m : Nat), m ≤ 100 → t.size < n → AFn Try.prog 123 [.agg (teC t), .one (.sc (.int .i64 (m : Nat)))] (.one (.sc (.bool (t.shape 14 m)))) := by
  induction n with
  | zero => intro t m _ h; omega
  | succ n ih =>
    intro t m hm h
    cases m with
    | zero =>
      have hd : decide (((0 : Nat) : Int) < 1) = true := rfl
      refine fn_in ?_; refine acl_in Try.func123 rfl isfn_123 (Nat.le_of_ble_eq_true rfl) (fun R hR => ?_); rw [Try.results123] at hR; refine wg_run ?_; (simp only [Try.f123, go_sem, hd])
      repeat' (first | (first | (simp only [go_sem, hd]) | (((first | apply sp1 | apply sp2 | apply sp3 | apply sp4 | apply sp5 | apply sp6 | apply sp7) <;> intro hb) <;> (simp only [go_sem, hb, hd])) | ((first | apply wm_done | apply wt_done | apply wg_run | refine fk ?_ ?_) <;> (simp only [go_sem, hd]))) | ((first | refine mxq6 [] ?_ | refine mxq5 [] ?_ | refine mxq4 [] ?_ | refine mxq3 [] ?_ | refine mxq2 [] ?_ | refine mxq1 [] ?_ | refine mxq0 [] ?_ | fail); (simp only [go_sem, hd])))
      (refine hR _ (rat [] (hK := ⟨rfl, rfl⟩)))
    | succ m =>
      have hl := telen_lt t
      have hd : decide (((m + 1 : Nat) : Int) < 1) = false := by simp only [decide_eq_false_iff_not]; omega
      have hw : IntKind.i64.wrap (((m + 1 : Nat) : Int) - 1) = (m : Int) := by rw [IntWalk.i64_in _ (by omega)]; omega
      have hk := l2Kids t.kind
      by_cases hlen : opN t.kind = (t.kids.length : Int)
      · have hb0 : (opN t.kind == (t.kids.length : Int)) = true := by simp [hlen]
        have hkd : 1 ≤ t.kind ∧ t.kind ≤ 14 := by
          rcases opN_cases t.kind with h | h
          · exact h
          · rw [h] at hlen; omega
        cases hc14 : (t.kind == 14)
        · have hk13 : t.kind ≤ 13 := by rw [beq_eq_false_iff_ne] at hc14; omega
          have ho := l2Own t hkd.1 hk13
          cases hok : t.ownOk
          · rw [hok] at ho
            have he : t.shape 14 (m + 1) = false := by rw [Tm.shape_succ, Tm.nodeOk_own, hok]; simp
            rw [he]
            refine fn_in ?_; refine acl_in Try.func123 rfl isfn_123 (Nat.le_of_ble_eq_true rfl) (fun R hR => ?_); rw [Try.results123] at hR; refine wg_run ?_; (simp only [Try.f123, go_sem, hd])
            repeat' (first | (first | (simp only [go_sem, hd, hb0, hc14, int_bne]) | (((first | apply sp1 | apply sp2 | apply sp3 | apply sp4 | apply sp5 | apply sp6 | apply sp7) <;> intro hb) <;> (simp only [go_sem, hb, hd, hb0, hc14, int_bne])) | ((first | apply wm_done | apply wt_done | apply wg_run | refine fk ?_ ?_) <;> (simp only [go_sem, hd, hb0, hc14, int_bne]))) | ((first | refine mxq6 [] ?_ | refine mxq5 [] ?_ | refine mxq4 [] ?_ | refine mxq3 [] ?_ | refine mxq2 [] ?_ | refine mxq1 [] ?_ | refine mxq0 [] ?_ | fail); (simp only [go_sem, hd, hb0, hc14, int_bne])) | (first | refine cdq ?_ (hc := hk) | refine cmq ?_ (hc := hk) | refine ctq ?_ (hc := hk)); (simp only [go_sem]) | (first | refine cdq ?_ (hc := ho) | refine cmq ?_ (hc := ho) | refine ctq ?_ (hc := ho)); (simp only [go_sem]))
            (refine hR _ (rat [] (hK := ⟨rfl, rfl⟩)))
          · rw [hok] at ho
            have he : t.shape 14 (m + 1) = t.kids.all (Tm.shape 14 m) := by rw [Tm.shape_succ, Tm.nodeOk_own, hok, hb0, hc14]; simp
            rw [he]
            refine fn_in ?_; refine acl_in Try.func123 rfl isfn_123 (Nat.le_of_ble_eq_true rfl) (fun R hR => ?_); rw [Try.results123] at hR; refine wg_run ?_; (simp only [Try.f123, go_sem, hd])
            repeat' (first | (first | (simp only [go_sem, hd, hb0, hc14, int_bne]) | (((first | apply sp1 | apply sp2 | apply sp3 | apply sp4 | apply sp5 | apply sp6 | apply sp7) <;> intro hb) <;> (simp only [go_sem, hb, hd, hb0, hc14, int_bne])) | ((first | apply wm_done | apply wt_done | apply wg_run | refine fk ?_ ?_) <;> (simp only [go_sem, hd, hb0, hc14, int_bne]))) | ((first | refine mxq6 [] ?_ | refine mxq5 [] ?_ | refine mxq4 [] ?_ | refine mxq3 [] ?_ | refine mxq2 [] ?_ | refine mxq1 [] ?_ | refine mxq0 [] ?_ | fail); (simp only [go_sem, hd, hb0, hc14, int_bne])) | (first | refine cdq ?_ (hc := hk) | refine cmq ?_ (hc := hk) | refine ctq ?_ (hc := hk)); (simp only [go_sem]) | (first | refine cdq ?_ (hc := ho) | refine cmq ?_ (hc := ho) | refine ctq ?_ (hc := ho)); (simp only [go_sem]))
            refine wd_for [1, 2, 5] (fun k => [.one (.sc (.int .i64 ((m + 1 : Nat) : Int))), .one (.ptr 9 0 0 0), .one (.sc (.int .i64 (k : Nat)))]) (fun k => [⟨9, 35, .mut, [teC t]⟩])
              (fun k => k ≤ t.kids.length ∧ (t.kids.drop k).all (Tm.shape 14 m) = t.kids.all (Tm.shape 14 m)) (fun k => t.kids.length - k) 0 ⟨Nat.zero_le _, rfl⟩ (hat [0] (hI := ⟨rfl, rfl⟩)) ?_
            rintro k ⟨hk0, hs⟩ G hG
            refine wg_run ?_
            (simp only [go_sem])
            ((first | apply sp1 | apply sp2 | apply sp3 | apply sp4 | apply sp5 | apply sp6 | apply sp7) <;> intro hb) <;> (simp only [go_sem, hb, hw])
            · have hk1 : k < t.kids.length := by have := of_decide_eq_true hb; omega
              have hw1 := wrap_succ hk1 (by omega)
              rw [tedrop_kid hk1, List.all_cons] at hs
              have hc := ih (by omega) (teKid t.kids k) m (by omega) (by have := teKid_lt hk1; omega)
              repeat' (first | (first | (simp only [go_sem, hw1, hw, hb]) | (((first | apply sp1 | apply sp2 | apply sp3 | apply sp4 | apply sp5 | apply sp6 | apply sp7) <;> intro hb) <;> (simp only [go_sem, hb, hw1, hw, hb])) | ((first | apply wm_done | apply wt_done | apply wg_run | refine fk ?_ ?_) <;> (simp only [go_sem, hw1, hw, hb]))) | (first | refine cdq ?_ (hc := hc) | refine cmq ?_ (hc := hc) | refine ctq ?_ (hc := hc)); (simp only [go_sem]))
              · exact hG (k + 1) _ _ ⟨by omega, by simpa [hb] using hs⟩ (by omega) (hat [0] (hI := ⟨rfl, rfl⟩))
              · (refine hR _ (rat [] (hK := ⟨?_, rfl⟩)))
                simpa [hb] using hs
            · have hk1 : ¬ k < t.kids.length := by have := of_decide_eq_false hb; omega
              rw [List.drop_eq_nil_of_le (by omega)] at hs
              (refine hR _ (rat [] (hK := ⟨?_, rfl⟩)))
              simpa using hs
        · have he : t.shape 14 (m + 1) = false := by rw [Tm.shape_succ, hc14]; simp
          rw [he]
          refine fn_in ?_; refine acl_in Try.func123 rfl isfn_123 (Nat.le_of_ble_eq_true rfl) (fun R hR => ?_); rw [Try.results123] at hR; refine wg_run ?_; (simp only [Try.f123, go_sem, hd])
          repeat' (first | (first | (simp only [go_sem, hd, hb0, hc14, int_bne]) | (((first | apply sp1 | apply sp2 | apply sp3 | apply sp4 | apply sp5 | apply sp6 | apply sp7) <;> intro hb) <;> (simp only [go_sem, hb, hd, hb0, hc14, int_bne])) | ((first | apply wm_done | apply wt_done | apply wg_run | refine fk ?_ ?_) <;> (simp only [go_sem, hd, hb0, hc14, int_bne]))) | ((first | refine mxq6 [] ?_ | refine mxq5 [] ?_ | refine mxq4 [] ?_ | refine mxq3 [] ?_ | refine mxq2 [] ?_ | refine mxq1 [] ?_ | refine mxq0 [] ?_ | fail); (simp only [go_sem, hd, hb0, hc14, int_bne])) | (first | refine cdq ?_ (hc := hk) | refine cmq ?_ (hc := hk) | refine ctq ?_ (hc := hk)); (simp only [go_sem]))
          (refine hR _ (rat [] (hK := ⟨rfl, rfl⟩)))
      · have hb0 : (opN t.kind == (t.kids.length : Int)) = false := by simp [hlen]
        have he : t.shape 14 (m + 1) = false := by rw [Tm.shape_succ, Tm.nodeOk_own, hb0]; simp
        rw [he]
        refine fn_in ?_; refine acl_in Try.func123 rfl isfn_123 (Nat.le_of_ble_eq_true rfl) (fun R hR => ?_); rw [Try.results123] at hR; refine wg_run ?_; (simp only [Try.f123, go_sem, hd])
        repeat' (first | (first | (simp only [go_sem, hd, hb0, int_bne]) | (((first | apply sp1 | apply sp2 | apply sp3 | apply sp4 | apply sp5 | apply sp6 | apply sp7) <;> intro hb) <;> (simp only [go_sem, hb, hd, hb0, int_bne])) | ((first | apply wm_done | apply wt_done | apply wg_run | refine fk ?_ ?_) <;> (simp only [go_sem, hd, hb0, int_bne]))) | ((first | refine mxq6 [] ?_ | refine mxq5 [] ?_ | refine mxq4 [] ?_ | refine mxq3 [] ?_ | refine mxq2 [] ?_ | refine mxq1 [] ?_ | refine mxq0 [] ?_ | fail); (simp only [go_sem, hd, hb0, int_bne])) | (first | refine cdq ?_ (hc := hk) | refine cmq ?_ (hc := hk) | refine ctq ?_ (hc := hk)); (simp only [go_sem]))
        (refine hR _ (rat [] (hK := ⟨rfl, rfl⟩)))
theorem sTermV (t : Tm) (h : t.size < 4611686018427387904) : AFn Try.prog 71 [.agg (teC t)] (.one (.sc (.bool t.termV))) := by
  have h1 := l2Shape _ (Nat.le_refl _) t 12 (by omega) h
  unfold Tm.termV
  cases hs : t.shape 14 12
  · rw [hs] at h1
    refine fn_in ?_; refine acl_in Try.func71 rfl isfn_71 (Nat.le_of_ble_eq_true rfl) (fun R hR => ?_); rw [Try.results71] at hR; refine wg_run ?_; (simp only [Try.f71, go_sem])
    repeat' (first | (first | (((first | apply sp1 | apply sp2 | apply sp3 | apply sp4 | apply sp5 | apply sp6 | apply sp7) <;> intro hb) <;> (simp only [go_sem, hb])) | ((first | apply wm_done | apply wt_done | apply wg_run | refine fk ?_ ?_) <;> (simp only [go_sem]))) | (first | refine cdq ?_ (hc := h1) | refine cmq ?_ (hc := h1) | refine ctq ?_ (hc := h1)); (simp only [go_sem]))
    (refine hR _ (rat [] (hK := ⟨rfl, rfl⟩)))
  · rw [hs] at h1
    have h2 := l2Count _ (Nat.le_refl _) t 14 12 (by omega) h hs
    refine fn_in ?_; refine acl_in Try.func71 rfl isfn_71 (Nat.le_of_ble_eq_true rfl) (fun R hR => ?_); rw [Try.results71] at hR; refine wg_run ?_; (simp only [Try.f71, go_sem])
    repeat' (first | (first | (((first | apply sp1 | apply sp2 | apply sp3 | apply sp4 | apply sp5 | apply sp6 | apply sp7) <;> intro hb) <;> (simp only [go_sem, hb])) | ((first | apply wm_done | apply wt_done | apply wg_run | refine fk ?_ ?_) <;> (simp only [go_sem]))) | (first | refine cdq ?_ (hc := h1) | refine cmq ?_ (hc := h1) | refine ctq ?_ (hc := h1)); (simp only [go_sem]) | (first | refine cdq ?_ (hc := h2) | refine cmq ?_ (hc := h2) | refine ctq ?_ (hc := h2)); (simp only [go_sem]))
    (refine hR _ (rat [] (hK := ⟨?_, rfl⟩)))
    rw [Bool.true_and]
    have : decide ((t.nodes : Int) ≤ 30) = decide (t.nodes ≤ 30) := by rw [Bool.eq_iff_iff]; simp; omega
    rw [this]
end Go.Proofs.Ytchcbfbnffhifaa
/- Terms: the types that stand in a term, on shadows. -/
namespace Go.Proofs.Grad
def hasTy (k : Int) : Bool := k == 5 || k == 13
def ownTys (k : Int) (t : Ty) : List Ty := match hasTy k with | true => [t] | false => []
mutual
def Tm.types : Tm → List Ty | .mk k _ _ t _ _ l => ownTys k t ++ Tm.typess l
def Tm.typess : List Tm → List Ty | [] => [] | t :: l => t.types ++ Tm.typess l
end
theorem Tm.types_eq (t : Tm) : t.types = ownTys t.kind t.type ++ Tm.typess t.kids := by cases t; rfl
theorem ownTys_len (k : Int) (t : Ty) : (ownTys k t).length ≤ 1 := by unfold ownTys; split <;> simp
mutual
theorem Tm.types_len : ∀ t : Tm, t.types.length ≤ t.nodes
  | .mk k n m t f b l => by have := Tm.typess_len l; have := ownTys_len k t; simp only [Tm.types, Tm.nodes, List.length_append]; omega
theorem Tm.typess_len : ∀ l : List Tm, (Tm.typess l).length ≤ Tm.nodess l
  | [] => by simp [Tm.typess]
  | t :: l => by have := Tm.types_len t; have := Tm.typess_len l; simp only [Tm.typess, Tm.nodess, List.length_append]; omega
end
theorem Tm.typess_append (l m : List Tm) : Tm.typess (l ++ m) = Tm.typess l ++ Tm.typess m := by
  induction l with
  | nil => rfl
  | cons t l ih => simp [Tm.typess, ih]
theorem Tm.typess_take {l : List Tm} {k : Nat} (h : k < l.length) : Tm.typess (l.take (k + 1)) = Tm.typess (l.take k) ++ (Sh.teKid l k).types := by
  rw [Sh.tetake_kid h, Tm.typess_append]; simp [Tm.typess]
theorem Tm.typess_take_len (l : List Tm) (k : Nat) : (Tm.typess (l.take k)).length ≤ Tm.nodess l := Nat.le_trans (Tm.typess_len _) (Tm.nodess_le_take l k)
end Go.Proofs.Grad
namespace Go.Proofs.Sh
attribute [go_sem] List.getD_cons_zero List.getD_cons_succ List.getD_nil
/-- a list of rows as a slice that has grown from nil -/
def grown (s b : Nat) : List (List C) → C | [] => .sc (.slice none 0 0) | r :: l => .row s b (l.length + 1)
end Go.Proofs.Sh
namespace Go.Proofs.Ytchcbfbnffhifaa
open Go.RowKit Go.Proofs.Sh Go.Proofs.Grad
set_option maxRecDepth 100000
set_option maxHeartbeats 8000000
theorem iHasType (t : Tm) : AFn Try.prog 133 [.agg (teC t)] (.one (.sc (.bool (hasTy t.kind)))) := by
  refine fn_in ?_; refine acl_in Try.func133 rfl isfn_133 (Nat.le_of_ble_eq_true rfl) (fun R hR => ?_); rw [Try.results133] at hR; refine wg_run ?_; (simp only [Try.f133, go_sem])
  repeat' (first | (((first | apply sp1 | apply sp2 | apply sp3 | apply sp4 | apply sp5 | apply sp6 | apply sp7) <;> intro hb) <;> (simp only [go_sem, hb])) | ((first | apply wm_done | apply wt_done | apply wg_run | refine fk ?_ ?_) <;> (simp only [go_sem])))
  all_goals (refine hR _ (rat [] (hK := ⟨?_, rfl⟩)))
  all_goals simp_all [hasTy]
theorem iTypes (n : Nat) (hn : n ≤ 2199023255552) : ∀ t : Tm, t.size < n → AFn Try.prog 91 [.agg (teC t)] (.one (.sl (tyR t.types))) := by
  induction n with
  | zero => intro t h; omega
  | succ n ih =>
    intro t h
    have hl := telen_lt t
    have hnl := t.nodes_le
    have hne := t.nodes_eq
    have ho := iOwnTy _ (by omega) t.type (Nat.lt_of_lt_of_le (by cases t; simp only [Tm.size, Tm.type]; omega : t.type.size < t.size) (Nat.le_of_lt_succ h))
    have hh := iHasType t
    have e0 : ownTys t.kind t.type = (match hasTy t.kind with | true => [t.type] | false => []) := rfl
    cases hty : hasTy t.kind
    all_goals
      rw [hty] at hh e0
      simp only [] at e0
      refine fn_in ?_; refine acl_in Try.func91 rfl isfn_91 (Nat.le_of_ble_eq_true rfl) (fun R hR => ?_); rw [Try.results91] at hR; refine wg_run ?_; (simp only [Try.f91, go_sem])
      repeat' (first | (first | (((first | apply sp1 | apply sp2 | apply sp3 | apply sp4 | apply sp5 | apply sp6 | apply sp7) <;> intro hb) <;> (simp only [go_sem, hb])) | ((first | apply wm_done | apply wt_done | apply wg_run | refine fk ?_ ?_) <;> (simp only [go_sem]))) | (first | refine cdq ?_ (hc := hh) | refine cmq ?_ (hc := hh) | refine ctq ?_ (hc := hh)); (simp only [go_sem]) | (first | refine cdq ?_ (hc := ho) | refine cmq ?_ (hc := ho) | refine ctq ?_ (hc := ho)); (simp only [go_sem]))
      first
        | refine wd_for [3, 15, 16, 17] (fun (x : Nat × List Ty) => [.one (match x.2 with | [] => .sc (.slice none 0 0) | a :: l => .row 2 0 (l.length + 1)), .one (.sl (teR t.kids)), .one (.sc (.int .i64 t.kids.length)), .one (.sc (.int .i64 (x.1 : Nat)))])
            (fun x => match x.2 with | [] => [] | a :: l => [⟨2, 32, .mut, tyR (a :: l)⟩])
            (fun x => x.1 ≤ t.kids.length ∧ x.2 = ownTys t.kind t.type ++ Tm.typess (t.kids.take x.1)) (fun x => t.kids.length - x.1) (0, []) ⟨Nat.zero_le _, by rw [e0]; rfl⟩ (hat [] (hI := ⟨rfl, rfl⟩)) ?_
        | refine wd_for [3, 15, 16, 17] (fun (x : Nat × List Ty) => [.one (match x.2 with | [] => .sc (.slice none 0 0) | a :: l => .row 2 0 (l.length + 1)), .one (.sl (teR t.kids)), .one (.sc (.int .i64 t.kids.length)), .one (.sc (.int .i64 (x.1 : Nat)))])
            (fun x => match x.2 with | [] => [] | a :: l => [⟨2, 32, .mut, tyR (a :: l)⟩])
            (fun x => x.1 ≤ t.kids.length ∧ x.2 = ownTys t.kind t.type ++ Tm.typess (t.kids.take x.1)) (fun x => t.kids.length - x.1) (0, [t.type]) ⟨Nat.zero_le _, by rw [e0]; rfl⟩ (hat [2] (hI := ⟨rfl, rfl⟩)) ?_
      rintro ⟨k, acc⟩ ⟨hk, hacc⟩ G hG
      simp only [] at hk hacc hG
      have hal : acc.length ≤ 1 + Tm.nodess t.kids := by
        have := ownTys_len t.kind t.type; have := Tm.typess_take_len t.kids k
        rw [hacc, List.length_append]; omega
      rcases acc with _ | ⟨a, acc⟩
      all_goals
        refine wg_run ?_
        (simp only [go_sem])
        ((first | apply sp1 | apply sp2 | apply sp3 | apply sp4 | apply sp5 | apply sp6 | apply sp7) <;> intro hb) <;> (simp only [go_sem, hb])
        · have hk1 : k < t.kids.length := by have := of_decide_eq_true hb; omega
          have hw1 := wrap_succ hk1 (by omega)
          have hc := ih (by omega) (teKid t.kids k) (by have := teKid_lt hk1; omega)
          have hkl := Tm.types_len (teKid t.kids k)
          have hkn := Tm.nodess_le_take t.kids (k + 1)
          rw [Tm.nodess_take hk1] at hkn
          have hnx : ownTys t.kind t.type ++ Tm.typess (t.kids.take (k + 1)) = ownTys t.kind t.type ++ Tm.typess (t.kids.take k) ++ (teKid t.kids k).types := by rw [Tm.typess_take hk1, List.append_assoc]
          rw [← hacc] at hnx
          cases hkt : (teKid t.kids k).types with
          | nil =>
            rw [hkt] at hc hnx
            repeat' (first | (first | (simp only [go_sem, hw1, hb]) | (((first | apply sp1 | apply sp2 | apply sp3 | apply sp4 | apply sp5 | apply sp6 | apply sp7) <;> intro hb) <;> (simp only [go_sem, hb, hw1, hb])) | ((first | apply wm_done | apply wt_done | apply wg_run | refine fk ?_ ?_) <;> (simp only [go_sem, hw1, hb]))) | (first | refine cdq ?_ (hc := hc) | refine cmq ?_ (hc := hc) | refine ctq ?_ (hc := hc)); (simp only [go_sem]))
            rw [List.append_nil] at hnx
            first
              | exact hG (k + 1, []) _ _ ⟨by omega, hnx.symm⟩ (by simp only []; omega) (hat [] (hI := ⟨rfl, rfl⟩))
              | exact hG (k + 1, a :: acc) _ _ ⟨by omega, hnx.symm⟩ (by simp only []; omega) (hat [0] (hI := ⟨rfl, rfl⟩))
          | cons b m =>
            rw [hkt] at hc hnx hkl
            simp only [List.length_cons] at hkl hal
            have hcap1 : (m.length + 1) * 32 ≤ 140737488355328 := by omega
            first
              | (have hcap2 : (acc.length + 1 + (m.length + 1)) * 32 ≤ 140737488355328 := by omega
                 repeat' (first | (first | (simp only [go_sem, hw1, hb, hcap1, hcap2]) | (((first | apply sp1 | apply sp2 | apply sp3 | apply sp4 | apply sp5 | apply sp6 | apply sp7) <;> intro hb) <;> (simp only [go_sem, hb, hw1, hb, hcap1, hcap2])) | ((first | apply wm_done | apply wt_done | apply wg_run | refine fk ?_ ?_) <;> (simp only [go_sem, hw1, hb, hcap1, hcap2]))) | (first | refine cdq ?_ (hc := hc) | refine cmq ?_ (hc := hc) | refine ctq ?_ (hc := hc)); (simp only [go_sem]))
                 refine hG (k + 1, a :: acc ++ b :: m) _ _ ⟨by omega, hnx.symm⟩ (by simp only []; omega) (hat [2] (hI := ⟨?_, ?_⟩))
                 · simp only [List.cons_append, List.length_append, List.length_cons]
                   rw [show acc.length + 1 + (m.length + 1) = acc.length + (m.length + 1) + 1 by omega]
                 · simp only [List.cons_append, tyR, tyR_append])
              | (repeat' (first | (first | (simp only [go_sem, hw1, hb, hcap1]) | (((first | apply sp1 | apply sp2 | apply sp3 | apply sp4 | apply sp5 | apply sp6 | apply sp7) <;> intro hb) <;> (simp only [go_sem, hb, hw1, hb, hcap1])) | ((first | apply wm_done | apply wt_done | apply wg_run | refine fk ?_ ?_) <;> (simp only [go_sem, hw1, hb, hcap1]))) | (first | refine cdq ?_ (hc := hc) | refine cmq ?_ (hc := hc) | refine ctq ?_ (hc := hc)); (simp only [go_sem]))
                 refine hG (k + 1, b :: m) _ _ ⟨by omega, hnx.symm⟩ (by simp only []; omega) (hat [1] (hI := ⟨rfl, rfl⟩)))
        · have hk1 : t.kids.take k = t.kids := List.take_of_length_le (by have := of_decide_eq_false hb; omega)
          rw [hk1, ← Tm.types_eq] at hacc
          (refine hR _ (rat [] (hK := ⟨?_, rfl⟩)))
          rw [← hacc]; rfl

theorem l2Types (n : Nat) (hn : n ≤ 1099511627776) : ∀ t : Tm, t.size < n → ∀ l : List Ty, l.length ≤ 1099511627776 → l.length + t.nodes ≤ 1099511627776 → ACl Try.prog 96 [.one (.row 2 0 l.length), .agg (teC t)] [⟨2, 32, .mut, tyR l⟩]
    (fun r H' => (r = .one (.row 2 0 (l ++ t.types).length) ∧ H' = [⟨2, 32, .mut, tyR (l ++ t.types)⟩]) ∨ (r = .one (.row 2 1 (l ++ t.types).length) ∧ H' = [⟨2, 32, .dead, []⟩, ⟨2, 32, .mut, tyR (l ++ t.types)⟩])) := by
  induction n with
  | zero => intro t h; omega
  | succ n ih =>
    intro t h l hl0 hl1
    have hl := telen_lt t
    have hnl := t.nodes_le
    have hne := t.nodes_eq
    have ho := l1Copy _ (by omega) t.type (Nat.lt_of_lt_of_le (by cases t; simp only [Tm.size, Tm.type]; omega : t.type.size < t.size) (Nat.le_of_lt_succ h))
    have hcap0 : (l.length + 1) * 32 ≤ 140737488355328 := by omega
    have e0 : ownTys t.kind t.type = (match hasTy t.kind with | true => [t.type] | false => []) := rfl
    have hty : hasTy t.kind = (t.kind == 5 || t.kind == 13) := rfl
    have hcases : (hasTy t.kind = true ∧ (t.kind == 5) = true ∧ (t.kind == 13) = false) ∨ (hasTy t.kind = true ∧ (t.kind == 5) = false ∧ (t.kind == 13) = true) ∨ (hasTy t.kind = false ∧ (t.kind == 5) = false ∧ (t.kind == 13) = false) := by
      rw [hty]
      cases e5 : (t.kind == 5)
      · cases (t.kind == 13) <;> simp
      · have : (t.kind == 13) = false := by rw [beq_eq_false_iff_ne]; have := beq_iff_eq.1 e5; omega
        simp [this]
    rcases hcases with ⟨hT, hk5, hk13⟩ | ⟨hT, hk5, hk13⟩ | ⟨hT, hk5, hk13⟩
    all_goals
      rw [hT] at e0
      simp only [] at e0
      refine acl_in Try.func96 rfl isfn_96 (Nat.le_of_ble_eq_true rfl) (fun R hR => ?_); rw [Try.results96] at hR; refine wg_run ?_; (simp only [Try.f96, go_sem, hk5])
      repeat' (first | (first | (simp only [go_sem, hk5, hk13, hcap0]) | (((first | apply sp1 | apply sp2 | apply sp3 | apply sp4 | apply sp5 | apply sp6 | apply sp7) <;> intro hb) <;> (simp only [go_sem, hb, hk5, hk13, hcap0])) | ((first | apply wm_done | apply wt_done | apply wg_run | refine fk ?_ ?_) <;> (simp only [go_sem, hk5, hk13, hcap0]))) | (first | refine cdq ?_ (hc := ho) | refine cmq ?_ (hc := ho) | refine ctq ?_ (hc := ho)); (simp only [go_sem]))
      first
        | refine wd_for [0, 3, 5] (fun (x : Nat × Bool) => match x.2 with | false => [.one (.row 2 0 (l ++ (ownTys t.kind t.type ++ Tm.typess (t.kids.take x.1))).length), .one (.ptr 9 1 0 0), .one (.sc (.int .i64 (x.1 : Nat)))] | true => [.one (.row 2 1 (l ++ (ownTys t.kind t.type ++ Tm.typess (t.kids.take x.1))).length), .one (.ptr 9 2 0 0), .one (.sc (.int .i64 (x.1 : Nat)))])
            (fun x => match x.2 with | false => [⟨2, 32, .mut, tyR (l ++ (ownTys t.kind t.type ++ Tm.typess (t.kids.take x.1)))⟩, ⟨9, 35, .mut, [teC t]⟩] | true => [⟨2, 32, .dead, []⟩, ⟨2, 32, .mut, tyR (l ++ (ownTys t.kind t.type ++ Tm.typess (t.kids.take x.1)))⟩, ⟨9, 35, .mut, [teC t]⟩])
            (fun x => x.1 ≤ t.kids.length) (fun x => t.kids.length - x.1) (0, true) (Nat.zero_le _) (hat [3, 1] (hI := ⟨by rw [e0]; simp [Tm.typess], by rw [e0]; simp [Tm.typess, tyR_append, tyR]⟩)) ?_
        | refine wd_for [0, 3, 5] (fun (x : Nat × Bool) => match x.2 with | false => [.one (.row 2 0 (l ++ (ownTys t.kind t.type ++ Tm.typess (t.kids.take x.1))).length), .one (.ptr 9 1 0 0), .one (.sc (.int .i64 (x.1 : Nat)))] | true => [.one (.row 2 1 (l ++ (ownTys t.kind t.type ++ Tm.typess (t.kids.take x.1))).length), .one (.ptr 9 2 0 0), .one (.sc (.int .i64 (x.1 : Nat)))])
            (fun x => match x.2 with | false => [⟨2, 32, .mut, tyR (l ++ (ownTys t.kind t.type ++ Tm.typess (t.kids.take x.1)))⟩, ⟨9, 35, .mut, [teC t]⟩] | true => [⟨2, 32, .dead, []⟩, ⟨2, 32, .mut, tyR (l ++ (ownTys t.kind t.type ++ Tm.typess (t.kids.take x.1)))⟩, ⟨9, 35, .mut, [teC t]⟩])
            (fun x => x.1 ≤ t.kids.length) (fun x => t.kids.length - x.1) (0, false) (Nat.zero_le _) (hat [1] (hI := ⟨by rw [e0]; simp [Tm.typess]; done, by rw [e0]; simp [Tm.typess]; done⟩)) ?_
      rintro ⟨k, mv⟩ hk G hG
      simp only [] at hk
      have hal : (l ++ (ownTys t.kind t.type ++ Tm.typess (t.kids.take k))).length ≤ l.length + 1 + Tm.nodess (t.kids.take k) := by
        have := ownTys_len t.kind t.type; have := Tm.typess_len (t.kids.take k)
        simp only [List.length_append]; omega
      rcases mv with _ | _
      all_goals
        refine wg_run ?_
        (simp only [go_sem])
        ((first | apply sp1 | apply sp2 | apply sp3 | apply sp4 | apply sp5 | apply sp6 | apply sp7) <;> intro hb) <;> (simp only [go_sem, hb])
        · have hk1 : k < t.kids.length := by have := of_decide_eq_true hb; omega
          have hw1 := wrap_succ hk1 (by omega)
          have hkn := Tm.nodess_le_take t.kids (k + 1)
          rw [Tm.nodess_take hk1] at hkn
          have hc := ih (by omega) (teKid t.kids k) (by have := teKid_lt hk1; omega) (l ++ (ownTys t.kind t.type ++ Tm.typess (t.kids.take k))) (by omega) (by omega)
          have hnx : l ++ (ownTys t.kind t.type ++ Tm.typess (t.kids.take k)) ++ (teKid t.kids k).types = l ++ (ownTys t.kind t.type ++ Tm.typess (t.kids.take (k + 1))) := by rw [Tm.typess_take hk1]; simp only [List.append_assoc]
          rw [hnx] at hc
          first
            | (repeat' (first | (first | (simp only [go_sem, hw1, hb]) | (((first | apply sp1 | apply sp2 | apply sp3 | apply sp4 | apply sp5 | apply sp6 | apply sp7) <;> intro hb) <;> (simp only [go_sem, hb, hw1, hb])) | ((first | apply wm_done | apply wt_done | apply wg_run | refine fk ?_ ?_) <;> (simp only [go_sem, hw1, hb]))) | ((first | refine kdq [0] ?_ (hc := hc) | refine kmq [0] ?_ (hc := hc) | refine ktq [0] ?_ (hc := hc)); rintro _ _ (⟨rfl, rfl⟩ | ⟨rfl, rfl⟩) <;> (simp only [go_sem])))
               all_goals (try (simp only [go_sem, hw1]))
               · exact hG (k + 1, false) _ _ (by simp only []; omega) (by simp only []; omega) (hat [1] (hI := ⟨rfl, rfl⟩))
               · exact hG (k + 1, true) _ _ (by simp only []; omega) (by simp only []; omega) (hat [2, 1] (hI := ⟨rfl, rfl⟩)))
            | (repeat' (first | (first | (simp only [go_sem, hw1, hb]) | (((first | apply sp1 | apply sp2 | apply sp3 | apply sp4 | apply sp5 | apply sp6 | apply sp7) <;> intro hb) <;> (simp only [go_sem, hb, hw1, hb])) | ((first | apply wm_done | apply wt_done | apply wg_run | refine fk ?_ ?_) <;> (simp only [go_sem, hw1, hb]))) | ((first | refine kdq [1] ?_ (hc := hc) | refine kmq [1] ?_ (hc := hc) | refine ktq [1] ?_ (hc := hc)); rintro _ _ (⟨rfl, rfl⟩ | ⟨rfl, rfl⟩) <;> (simp only [go_sem])))
               all_goals (try (simp only [go_sem, hw1]))
               · exact hG (k + 1, true) _ _ (by simp only []; omega) (by simp only []; omega) (hat [1, 2] (hI := ⟨rfl, rfl⟩))
               · exact hG (k + 1, true) _ _ (by simp only []; omega) (by simp only []; omega) (hat [3, 2] (hI := ⟨rfl, rfl⟩)))
        · have hk1 : t.kids.take k = t.kids := List.take_of_length_le (by have := of_decide_eq_false hb; omega)
          have htl : (ownTys t.kind t.type).length + (Tm.typess t.kids).length = t.types.length := by rw [Tm.types_eq, List.length_append]
          rw [hk1, ← Tm.types_eq]
          first
            | exact hR _ (ret_own [] (by (simp only [go_sem, htl]); first | done | rfl) (by (simp only [go_sem, htl]); first | done | rfl) (.inl ⟨rfl, rfl⟩))
            | exact hR _ (ret_own [1] (by (simp only [go_sem, htl]); first | done | rfl) (by (simp only [go_sem, htl]); first | done | rfl) (.inr ⟨rfl, rfl⟩))
end Go.Proofs.Ytchcbfbnffhifaa
/- Types: counting what is unknown, on shadows. -/
namespace Go.Proofs.Ytchcbfbnffhifaa
open Go.RowKit Go.Proofs.Sh Go.Proofs.Grad
set_option maxRecDepth 100000
set_option maxHeartbeats 4000000
end Go.Proofs.Ytchcbfbnffhifaa
