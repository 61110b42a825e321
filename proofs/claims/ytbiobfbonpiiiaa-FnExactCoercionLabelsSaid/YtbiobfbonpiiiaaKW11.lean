/- Texts of the proof, one behind another. -/
import Derived.Test.YtbiobfbonpiiiaaKW10
set_option linter.unusedSimpArgs false
set_option linter.unusedVariables false
/- Coercions: composition in the program, on shadows. -/
namespace Go.Proofs.Grad
end Go.Proofs.Grad
namespace Go.Proofs.Sh
open Go.Proofs.Grad
end Go.Proofs.Sh
namespace Go.Proofs.Ytbiobfbonpiiiaa
open Go.RowKit Go.Proofs.Sh Go.Proofs.Grad
set_option maxRecDepth 100000
set_option maxHeartbeats 4000000
end Go.Proofs.Ytbiobfbonpiiiaa
/- Coercions: copies; composition in the program, behind validity. On shadows. -/
namespace Go.Proofs.Grad
theorem K.co_size (k : K) : k.co.size = k.size := by
  induction k with
  | id g => simp [K.co, Co.size, Co.sizes, K.size]
  | fail l g => simp [K.co, Co.size, Co.sizes, K.size]
  | fn a b iha ihb => simp only [K.co, Co.size, Co.sizes, K.size, iha, ihb]; omega
  | pr a b iha ihb => simp only [K.co, Co.size, Co.sizes, K.size, iha, ihb]; omega
  | inj a ih => simp only [K.co, Co.size, Co.sizes, K.size, ih]; omega
  | prj l a ih => simp only [K.co, Co.size, Co.sizes, K.size, ih]; omega
/-- no coercion -/
def Co.zero : Co := .mk 0 0 0 []
/-- a valid one, or none -/
def K.ok (k : K) : Bool := k.wf && decide (k.depth ≤ 9)
theorem K.ok_valid (k : K) : k.co.valid = k.ok := K.shape_co k 9
end Go.Proofs.Grad
namespace Go.Proofs.Ytbiobfbonpiiiaa
open Go.RowKit Go.Proofs.Sh Go.Proofs.Grad
set_option maxRecDepth 100000
set_option maxHeartbeats 4000000
end Go.Proofs.Ytbiobfbonpiiiaa
/- Coercions: the reference's checks, on shadows. -/
namespace Go.Proofs.Ytbiobfbonpiiiaa
open Go.RowKit Go.Proofs.Sh Go.Proofs.Grad
set_option maxRecDepth 100000
set_option maxHeartbeats 4000000
theorem l6Ground (c : Co) : AFn Try.prog 103 [.agg (coC c)] (.one (.sc (.bool c.plain))) := by
  refine fn_in ?_; refine acl_in Try.func103 rfl isfn_103 (Nat.le_of_ble_eq_true rfl) (fun R hR => ?_); rw [Try.results103] at hR; refine wg_run ?_; (simp only [Try.f103, go_sem])
  repeat' (first | (((first | apply sp1 | apply sp2 | apply sp3 | apply sp4 | apply sp5 | apply sp6 | apply sp7) <;> intro hb) <;> (simp only [go_sem, hb])) | ((first | apply wm_done | apply wt_done | apply wg_run | refine fk ?_ ?_) <;> (simp only [go_sem])))
  all_goals (refine hR _ (rat [] (hK := ⟨?_, rfl⟩)))
  all_goals simp_all [Co.plain]
theorem l6Shape (m : Nat) (hm : m ≤ 9) : ∀ c : Co, c.size < 4611686018427387904 → AFn Try.prog 66 [.agg (coC c), .one (.sc (.int .i64 (m : Nat)))] (.one (.sc (.bool (c.shape m)))) := by
  induction m with
  | zero =>
    intro c _
    refine fn_in ?_; refine acl_in Try.func66 rfl isfn_66 (Nat.le_of_ble_eq_true rfl) (fun R hR => ?_); rw [Try.results66] at hR; refine wg_run ?_; (simp only [Try.f66, go_sem])
    (refine hR _ (rat [] (hK := ⟨rfl, rfl⟩)))
  | succ m ih =>
    intro c hcs
    have hd : decide (((m + 1 : Nat) : Int) < 1) = false := by simp; omega
    have hw : IntKind.i64.wrap (((m + 1 : Nat) : Int) - 1) = (m : Int) := by rw [IntWalk.i64_in _ (by omega)]; omega
    have hl := colen_lt c
    refine fn_in ?_; refine acl_in Try.func66 rfl isfn_66 (Nat.le_of_ble_eq_true rfl) (fun R hR => ?_); rw [Try.results66] at hR; refine wg_run ?_; (simp only [Try.f66, go_sem, hd])
    refine wd_for [1, 2, 5] (fun k => [.one (.sc (.int .i64 ((m + 1 : Nat) : Int))), .one (.ptr 4 0 0 0), .one (.sc (.int .i64 (k : Nat)))]) (fun k => [⟨4, 30, .mut, [coC c]⟩])
        (fun k => k ≤ c.kids.length ∧ (c.kids.drop k).all (Co.shape m) = c.kids.all (Co.shape m)) (fun k => c.kids.length - k) 0 ⟨Nat.zero_le _, rfl⟩ (hat [0] (hI := ⟨rfl, rfl⟩)) ?_
    rintro k ⟨hk, hs⟩ G hG
    refine wg_run ?_
    (simp only [go_sem])
    ((first | apply sp1 | apply sp2 | apply sp3 | apply sp4 | apply sp5 | apply sp6 | apply sp7) <;> intro hb) <;> (simp only [go_sem, hb, hw])
    · have hk1 : k < c.kids.length := by have := of_decide_eq_true hb; omega
      rw [codrop_kid hk1, List.all_cons] at hs
      have hw1 := wrap_succ hk1 (by omega)
      (first | refine cdq ?_ (hc := ih (by omega) _ (by have := coKid_lt hk1; omega)) | refine cmq ?_ (hc := ih (by omega) _ (by have := coKid_lt hk1; omega)) | refine ctq ?_ (hc := ih (by omega) _ (by have := coKid_lt hk1; omega))); (simp only [go_sem])
      repeat' (first | (simp only [go_sem, hw1]) | (((first | apply sp1 | apply sp2 | apply sp3 | apply sp4 | apply sp5 | apply sp6 | apply sp7) <;> intro hb) <;> (simp only [go_sem, hb, hw1])) | ((first | apply wm_done | apply wt_done | apply wg_run | refine fk ?_ ?_) <;> (simp only [go_sem, hw1])))
      · exact hG (k + 1) _ _ ⟨by omega, by simpa [hb] using hs⟩ (by omega) (hat [0] (hI := ⟨rfl, rfl⟩))
      · (refine hR _ (rat [] (hK := ⟨?_, rfl⟩)))
        have : c.kids.all (Co.shape m) = false := by rw [← hs, hb]; rfl
        simp only [Co.shape, this, Bool.and_false]
    · have hk1 : ¬ k < c.kids.length := by have := of_decide_eq_false hb; omega
      rw [List.drop_eq_nil_of_le (by omega)] at hs
      have hs2 : c.shape (m + 1) = c.okN := by simp only [Co.shape, ← hs, List.all_nil, Bool.and_true]
      rw [hs2] at hR
      clear hG hs hs2 hb hk hk1 G ih hcs hl
      obtain ⟨kd, t, l, ks⟩ := c
      (simp only [go_sem])
      rcases co_cases kd with rfl | rfl | rfl | rfl | rfl | rfl | ⟨h, h'⟩
      · repeat' (first | (first | (((first | apply sp1 | apply sp2 | apply sp3 | apply sp4 | apply sp5 | apply sp6 | apply sp7) <;> intro hb) <;> (simp only [go_sem, hb])) | ((first | apply wm_done | apply wt_done | apply wg_run | refine fk ?_ ?_) <;> (simp only [go_sem]))) | (first | refine cdq ?_ (hc := l6Label _) | refine cmq ?_ (hc := l6Label _) | refine ctq ?_ (hc := l6Label _)); (simp only [go_sem]))
        all_goals (refine hR _ (rat [] (hK := ⟨?_, rfl⟩)))
        all_goals clear hR
        all_goals simp_all [Co.okN]
        all_goals (intros; omega)
      · repeat' (first | (first | (((first | apply sp1 | apply sp2 | apply sp3 | apply sp4 | apply sp5 | apply sp6 | apply sp7) <;> intro hb) <;> (simp only [go_sem, hb])) | ((first | apply wm_done | apply wt_done | apply wg_run | refine fk ?_ ?_) <;> (simp only [go_sem]))) | (first | refine cdq ?_ (hc := l6Label _) | refine cmq ?_ (hc := l6Label _) | refine ctq ?_ (hc := l6Label _)); (simp only [go_sem]))
        all_goals (refine hR _ (rat [] (hK := ⟨?_, rfl⟩)))
        all_goals clear hR
        all_goals simp_all [Co.okN]
        all_goals (intros; omega)
      · repeat' (first | (first | (((first | apply sp1 | apply sp2 | apply sp3 | apply sp4 | apply sp5 | apply sp6 | apply sp7) <;> intro hb) <;> (simp only [go_sem, hb])) | ((first | apply wm_done | apply wt_done | apply wg_run | refine fk ?_ ?_) <;> (simp only [go_sem]))) | (first | refine cdq ?_ (hc := l6Label _) | refine cmq ?_ (hc := l6Label _) | refine ctq ?_ (hc := l6Label _)); (simp only [go_sem]))
        all_goals (refine hR _ (rat [] (hK := ⟨?_, rfl⟩)))
        all_goals clear hR
        all_goals simp_all [Co.okN]
        all_goals (intros; omega)
      · by_cases h1 : ks.length = 1
        · obtain ⟨a, rfl⟩ : ∃ a, ks = [a] := List.length_eq_one_iff.1 h1
          repeat' (first | (first | (simp only [go_sem, int_bne]) | (((first | apply sp1 | apply sp2 | apply sp3 | apply sp4 | apply sp5 | apply sp6 | apply sp7) <;> intro hb) <;> (simp only [go_sem, hb, int_bne])) | ((first | apply wm_done | apply wt_done | apply wg_run | refine fk ?_ ?_) <;> (simp only [go_sem, int_bne]))) | (first | refine cdq ?_ (hc := l6Label _) | refine cmq ?_ (hc := l6Label _) | refine ctq ?_ (hc := l6Label _)); (simp only [go_sem]) | (first | refine cdq ?_ (hc := l6Ground _) | refine cmq ?_ (hc := l6Ground _) | refine ctq ?_ (hc := l6Ground _)); (simp only [go_sem]))
          all_goals (refine hR _ (rat [] (hK := ⟨?_, rfl⟩)))
          all_goals clear hR
          all_goals simp_all [Co.okN]
          all_goals (try grind)
        · have hl1 : (((ks.length : Nat) : Int) == 1) = false := by rw [beq_eq_false_iff_ne]; omega
          (simp only [go_sem, hl1])
          (refine hR _ (rat [] (hK := ⟨?_, rfl⟩)))
          simp only [Co.okN]
          match ks, h1 with
          | [], _ => rfl
          | [_], h => simp at h
          | _ :: _ :: _, _ => rfl
      · by_cases h1 : ks.length = 1
        · obtain ⟨a, rfl⟩ : ∃ a, ks = [a] := List.length_eq_one_iff.1 h1
          repeat' (first | (first | (simp only [go_sem, int_bne]) | (((first | apply sp1 | apply sp2 | apply sp3 | apply sp4 | apply sp5 | apply sp6 | apply sp7) <;> intro hb) <;> (simp only [go_sem, hb, int_bne])) | ((first | apply wm_done | apply wt_done | apply wg_run | refine fk ?_ ?_) <;> (simp only [go_sem, int_bne]))) | (first | refine cdq ?_ (hc := l6Label _) | refine cmq ?_ (hc := l6Label _) | refine ctq ?_ (hc := l6Label _)); (simp only [go_sem]) | (first | refine cdq ?_ (hc := l6Ground _) | refine cmq ?_ (hc := l6Ground _) | refine ctq ?_ (hc := l6Ground _)); (simp only [go_sem]))
          all_goals (refine hR _ (rat [] (hK := ⟨?_, rfl⟩)))
          all_goals clear hR
          all_goals simp_all [Co.okN]
          all_goals (try grind)
        · have hl1 : (((ks.length : Nat) : Int) == 1) = false := by rw [beq_eq_false_iff_ne]; omega
          (simp only [go_sem, hl1])
          (refine hR _ (rat [] (hK := ⟨?_, rfl⟩)))
          simp only [Co.okN]
          match ks, h1 with
          | [], _ => rfl
          | [_], h => simp at h
          | _ :: _ :: _, _ => rfl
      · repeat' (first | (first | (((first | apply sp1 | apply sp2 | apply sp3 | apply sp4 | apply sp5 | apply sp6 | apply sp7) <;> intro hb) <;> (simp only [go_sem, hb])) | ((first | apply wm_done | apply wt_done | apply wg_run | refine fk ?_ ?_) <;> (simp only [go_sem]))) | (first | refine cdq ?_ (hc := l6Label _) | refine cmq ?_ (hc := l6Label _) | refine ctq ?_ (hc := l6Label _)); (simp only [go_sem]))
        all_goals (refine hR _ (rat [] (hK := ⟨?_, rfl⟩)))
        all_goals clear hR
        all_goals simp_all [Co.okN]
        all_goals (intros; omega)
      · have h1 := h' t l ks
        have e : ∀ n : Int, coN n ≠ -1 → (kd == n) = false := fun n hn => by rw [beq_eq_false_iff_ne]; intro e; rw [e] at h; exact hn h
        have e1 := e 1 (by decide); have e2 := e 2 (by decide); have e3 := e 3 (by decide); have e4 := e 4 (by decide); have e5 := e 5 (by decide); have e6 := e 6 (by decide)
        (simp only [go_sem, e1, e2, e3, e4, e5, e6])
        (refine hR _ (rat [] (hK := ⟨?_, rfl⟩)))
        rw [h1]
theorem sCoValid (c : Co) (h : c.size < 4611686018427387904) : AFn Try.prog 24 [.agg (coC c)] (.one (.sc (.bool c.valid))) := by
  refine fn_in ?_; refine acl_in Try.func24 rfl isfn_24 (Nat.le_of_ble_eq_true rfl) (fun R hR => ?_); rw [Try.results24] at hR; refine wg_run ?_; (simp only [Try.f24, go_sem])
  (first | refine cdq ?_ (hc := l6Shape 9 (by omega) _ h) | refine cmq ?_ (hc := l6Shape 9 (by omega) _ h) | refine ctq ?_ (hc := l6Shape 9 (by omega) _ h)); (simp only [go_sem])
  (refine hR _ (rat [] (hK := ⟨?_, rfl⟩)))
  rfl
end Go.Proofs.Ytbiobfbonpiiiaa
