/- Texts of the proof, one behind another. -/
import Derived.Test.YtfgjiamolknicaaKW13
import Derived.Test.YtfgjiamolknicaaKW14
import Derived.Test.YtfgjiamolknicaaKW15
import Derived.Test.YtfgjiamolknicaaKW16
import Derived.Test.YtfgjiamolknicaaKW18
set_option linter.unusedSimpArgs false
set_option linter.unusedVariables false
/- Free names of terms, in the reference. On shadows. -/
namespace Go.Proofs.Ytfgjiamolknicaa
open Go.RowKit Go.Proofs.Sh Go.Proofs.Grad
set_option maxRecDepth 100000
set_option maxHeartbeats 8000000
theorem l2HasN (l : List UInt8) (hl : l.length < 1000000) (y : UInt8) : AFn Try.prog 135 [.one (.sc (.string (bsOf l))), .one (.sc (.string (nm y)))] (.one (.sc (.bool (l.contains y)))) := by
  have hsz := bsOf_size l
  refine fn_in ?_; refine acl_in Try.func135 rfl isfn_135 (Nat.le_of_ble_eq_true rfl) (fun R hR => ?_); rw [Try.results135] at hR; refine wg_run ?_; (simp only [Try.f135, go_sem])
  refine wd_for [0, 1, 5] (fun k => [.one (.sc (.string (bsOf l))), .one (.sc (.string (nm y))), .one (.sc (.int .i64 (k : Nat)))]) (fun _ => [])
    (fun k => k ≤ l.length ∧ l.contains y = (l.drop k).contains y) (fun k => l.length - k) 0 ⟨Nat.zero_le _, rfl⟩ (hat [] (hI := ⟨rfl, rfl⟩)) ?_
  rintro k ⟨hk, hI⟩ G hG
  refine wg_run ?_
  by_cases hk1 : k < l.length
  · have hw1 := wrap_succ hk1 (by omega)
    have d2 : decide ((k : Int) < ((bsOf l).size : Int)) = true := by rw [hsz]; simp; omega
    have d3 : decide (k + 1 ≤ (bsOf l).size) = true := by rw [hsz]; simp; omega
    have d4 : decide (k ≤ k + 1) = true := by simp
    have he := bsOf_one l k hk1
    have hb := nm_beq l[k] y
    rw [List.drop_eq_getElem_cons hk1, List.contains_cons] at hI
    cases e1 : (l[k] == y)
    · rw [e1] at hb
      have e2 : (y == l[k]) = false := by simp at e1 ⊢; exact fun h => e1 h.symm
      rw [e2, Bool.false_or] at hI
      (simp only [go_sem, d2])
      repeat' (first | (first | (simp only [go_sem, d2, hw1, d3, d4, he, hb]) | (((first | apply sp1 | apply sp2 | apply sp3 | apply sp4 | apply sp5 | apply sp6 | apply sp7) <;> intro hb) <;> (simp only [go_sem, hb, d2, hw1, d3, d4, he, hb])) | ((first | apply wm_done | apply wt_done | apply wg_run | refine fk ?_ ?_) <;> (simp only [go_sem, d2, hw1, d3, d4, he, hb]))) | (refine wd_mix 0 [] follows (by kernel_rfl) (by (simp only [go_sem]); first | done | rfl) ?_; (simp only [go_sem])) | fail)
      exact hG (k + 1) _ _ ⟨by omega, hI⟩ (by omega) (hat [] (hI := ⟨rfl, rfl⟩))
    · rw [e1] at hb
      have e2 : (y == l[k]) = true := by simp at e1 ⊢; exact e1.symm
      rw [e2, Bool.true_or] at hI
      (simp only [go_sem, d2])
      repeat' (first | (first | (simp only [go_sem, d2, hw1, d3, d4, he, hb]) | (((first | apply sp1 | apply sp2 | apply sp3 | apply sp4 | apply sp5 | apply sp6 | apply sp7) <;> intro hb) <;> (simp only [go_sem, hb, d2, hw1, d3, d4, he, hb])) | ((first | apply wm_done | apply wt_done | apply wg_run | refine fk ?_ ?_) <;> (simp only [go_sem, d2, hw1, d3, d4, he, hb]))) | (refine wd_mix 0 [] follows (by kernel_rfl) (by (simp only [go_sem]); first | done | rfl) ?_; (simp only [go_sem])) | fail)
      (refine hR _ (rat [] (hK := ⟨?_, rfl⟩)))
      rw [hI]
  · have d2 : decide ((k : Int) < ((bsOf l).size : Int)) = false := by rw [hsz]; simp; omega
    rw [List.drop_eq_nil_of_le (by omega)] at hI
    (simp only [go_sem, d2])
    repeat' (first | (first | (simp only [go_sem, d2]) | (((first | apply sp1 | apply sp2 | apply sp3 | apply sp4 | apply sp5 | apply sp6 | apply sp7) <;> intro hb) <;> (simp only [go_sem, hb, d2])) | ((first | apply wm_done | apply wt_done | apply wg_run | refine fk ?_ ?_) <;> (simp only [go_sem, d2]))) | fail)
    (refine hR _ (rat [] (hK := ⟨?_, rfl⟩)))
    rw [hI]; rfl
theorem bl1 (a y : UInt8) : Op.bytesLess (nm a).toList (nm y).toList = decide (a < y) := by
  rw [Go.ByteArray.toList_eq, Go.ByteArray.toList_eq]
  simp [nm, Op.bytesLess]
theorem l2AddN (p : UInt8 → Bool) (y : UInt8) (hy : nmB y = true) : AFn Try.prog 124 [.one (.sc (.string (bsOf (names p)))), .one (.sc (.string (nm y)))] (.one (.sc (.string (bsOf (names (fun x => p x || x == y)))))) := by
  have hl := names_len p
  have hn : nms (names p) := fun b hb => (mem_names.1 hb).1
  have hadd := fun k => names_add (p := p) (y := y) hy (k := k)
  have hhave := names_have (p := p) (y := y)
  have hso := names_sorted p
  generalize names (fun x => p x || x == y) = m at *
  generalize names p = l at *
  have hsz := bsOf_size l
  refine fn_in ?_; refine acl_in Try.func124 rfl isfn_124 (Nat.le_of_ble_eq_true rfl) (fun R hR => ?_); rw [Try.results124] at hR; refine wg_run ?_; (simp only [Try.f124, go_sem])
  refine wd_for [0, 1, 4, 5] (fun k => [.one (.sc (.string (bsOf l))), .one (.sc (.string (nm y))), .one (.sc (.string ⟨#[]⟩)), .one (.sc (.int .i64 (k : Nat)))]) (fun _ => [])
    (fun k => k ≤ l.length ∧ ∀ x ∈ l.take k, x < y) (fun k => l.length - k) 0 ⟨Nat.zero_le _, by simp⟩ (hat [] (hI := ⟨rfl, rfl⟩)) ?_
  rintro k ⟨hk, hlo⟩ G hG
  refine wg_run ?_
  obtain ⟨hx1, hx2, hap, hap2, d6, d7, d5, d8, hm1, hm2⟩ := addF (y := y) (by omega : l.length < 1000000) hn hy hk
  have d6 := addOk_of d6
  have d7 := addOk_of d7
  by_cases hk1 : k < l.length
  · have hw1 := wrap_succ hk1 (by omega)
    have d2 : decide ((k : Int) < ((bsOf l).size : Int)) = true := by rw [hsz]; simp; omega
    have d3 : decide (k + 1 ≤ (bsOf l).size) = true := by rw [hsz]; simp; omega
    have d4 : decide (k ≤ k + 1) = true := by simp
    have he := bsOf_one l k hk1
    have hb1 := bl1 l[k] y
    have hb2 := nm_beq l[k] y
    by_cases c1 : l[k] < y
    · rw [decide_eq_true c1] at hb1
      (simp only [go_sem, d2])
      repeat' (first | (first | (simp only [go_sem, d2, hw1, d3, d4, d5, d6, d7, d8, he, hb1, hb2, hx1, hx2, hap, hap2]) | (((first | apply sp1 | apply sp2 | apply sp3 | apply sp4 | apply sp5 | apply sp6 | apply sp7) <;> intro hb) <;> (simp only [go_sem, hb, d2, hw1, d3, d4, d5, d6, d7, d8, he, hb1, hb2, hx1, hx2, hap, hap2])) | ((first | apply wm_done | apply wt_done | apply wg_run | refine fk ?_ ?_) <;> (simp only [go_sem, d2, hw1, d3, d4, d5, d6, d7, d8, he, hb1, hb2, hx1, hx2, hap, hap2]))) | (refine wd_mix 0 [] follows (by kernel_rfl) (by (simp only [go_sem]); first | done | rfl) ?_; (simp only [go_sem])) | fail)
      exact hG (k + 1) _ _ ⟨by omega, fun x hx => by
        rw [List.take_succ_eq_append_getElem hk1, List.mem_append, List.mem_singleton] at hx
        rcases hx with hx | hx
        · exact hlo x hx
        · subst hx; exact c1⟩ (by omega) (hat [] (hI := ⟨rfl, rfl⟩))
    · rw [decide_eq_false c1] at hb1
      by_cases c2 : l[k] = y
      · rw [show (l[k] == y) = true from by rw [c2]; exact beq_self_eq_true _] at hb2
        have hm := hhave (c2 ▸ List.getElem_mem hk1)
        (simp only [go_sem, d2])
        repeat' (first | (first | (simp only [go_sem, d2, hw1, d3, d4, d5, d6, d7, d8, he, hb1, hb2, hx1, hx2, hap, hap2]) | (((first | apply sp1 | apply sp2 | apply sp3 | apply sp4 | apply sp5 | apply sp6 | apply sp7) <;> intro hb) <;> (simp only [go_sem, hb, d2, hw1, d3, d4, d5, d6, d7, d8, he, hb1, hb2, hx1, hx2, hap, hap2])) | ((first | apply wm_done | apply wt_done | apply wg_run | refine fk ?_ ?_) <;> (simp only [go_sem, d2, hw1, d3, d4, d5, d6, d7, d8, he, hb1, hb2, hx1, hx2, hap, hap2]))) | (refine wd_mix 0 [] follows (by kernel_rfl) (by (simp only [go_sem]); first | done | rfl) ?_; (simp only [go_sem])) | fail)
        (refine hR _ (rat [] (hK := ⟨?_, rfl⟩)))
        rw [← hm]
      · rw [show (l[k] == y) = false from by simpa using c2] at hb2
        have c3 : y < l[k] := by
          rcases Nat.lt_trichotomy l[k].toNat y.toNat with h | h | h
          · exact absurd h c1
          · exact absurd (UInt8.toNat_inj.1 h) c2
          · exact h
        have hm := hadd k hk hlo (fun x hx => by
          have hp := hso.drop (i := k)
          rw [List.drop_eq_getElem_cons hk1] at hx hp
          rcases List.mem_cons.1 hx with rfl | hx
          · exact c3
          · exact UInt8.lt_trans c3 ((List.pairwise_cons.1 hp).1 x hx))
        (simp only [go_sem, d2])
        repeat' (first | (first | (simp only [go_sem, d2, hw1, d3, d4, d5, d6, d7, d8, he, hb1, hb2, hx1, hx2, hap, hap2]) | (((first | apply sp1 | apply sp2 | apply sp3 | apply sp4 | apply sp5 | apply sp6 | apply sp7) <;> intro hb) <;> (simp only [go_sem, hb, d2, hw1, d3, d4, d5, d6, d7, d8, he, hb1, hb2, hx1, hx2, hap, hap2])) | ((first | apply wm_done | apply wt_done | apply wg_run | refine fk ?_ ?_) <;> (simp only [go_sem, d2, hw1, d3, d4, d5, d6, d7, d8, he, hb1, hb2, hx1, hx2, hap, hap2]))) | (refine wd_mix 0 [] follows (by kernel_rfl) (by (simp only [go_sem]); first | done | rfl) ?_; (simp only [go_sem])) | fail)
        (refine hR _ (rat [] (hK := ⟨?_, rfl⟩)))
        rw [← hm]
  · have d2 : decide ((k : Int) < ((bsOf l).size : Int)) = false := by rw [hsz]; simp; omega
    have hm := hadd k hk hlo (fun x hx => by rw [List.drop_eq_nil_of_le (by omega)] at hx; simp at hx)
    (simp only [go_sem, d2])
    repeat' (first | (first | (simp only [go_sem, d2, d5, d6, d7, d8, hx1, hx2, hap, hap2]) | (((first | apply sp1 | apply sp2 | apply sp3 | apply sp4 | apply sp5 | apply sp6 | apply sp7) <;> intro hb) <;> (simp only [go_sem, hb, d2, d5, d6, d7, d8, hx1, hx2, hap, hap2])) | ((first | apply wm_done | apply wt_done | apply wg_run | refine fk ?_ ?_) <;> (simp only [go_sem, d2, d5, d6, d7, d8, hx1, hx2, hap, hap2]))) | (refine wd_mix 0 [] follows (by kernel_rfl) (by (simp only [go_sem]); first | done | rfl) ?_; (simp only [go_sem])) | fail)
    (refine hR _ (rat [] (hK := ⟨?_, rfl⟩)))
    rw [← hm]
theorem names_has {p : UInt8 → Bool} {y : UInt8} (hy : nmB y = true) : (names p).contains y = p y := by
  rw [Bool.eq_iff_iff, List.contains_iff_mem, mem_names, hy]; simp
/-- what l2Free does -/
def FreeS (e : E) : Prop := e.wf = true → ∀ (o z : UInt8 → Bool), AFn Try.prog 66 [.one (.sc (.string (bsOf (names o)))), .agg (teC e.tm), .one (.sc (.string (bsOf (names z))))] (.one (.sc (.string (bsOf (names (fun x => o x || (e.fr x && !z x)))))))
theorem sFree (e : E) : FreeS e := by
  induction e with
  | var y =>
    intro hw o z
    simp only [E.wf] at hw
    have hc := l2HasN (names z) (by have := names_len z; omega) y
    rw [names_has hw] at hc
    have ha := l2AddN o y hw
    cases hcy : z y
    · rw [hcy] at hc
      rw [show names (fun x => o x || ((E.var y).fr x && !z x)) = names (fun x => o x || x == y) from names_congr fun x _ => by
        simp only [E.fr]
        by_cases e1 : y = x
        · subst e1; rw [hcy]; simp
        · have : (x == y) = false := by simp; exact fun h => e1 h.symm
          simp [e1, this]]
      generalize names (fun x => o x || x == y) = m1 at *
      generalize names o = m2 at *
      generalize names z = m3 at *
      simp only [E.tm, nd]
      refine fn_in ?_; refine acl_in Try.func66 rfl isfn_66 (Nat.le_of_ble_eq_true rfl) (fun R hR => ?_); rw [Try.results66] at hR; refine wg_run ?_; (simp only [Try.f66, go_sem])
      repeat' (first | (first | (((first | apply sp1 | apply sp2 | apply sp3 | apply sp4 | apply sp5 | apply sp6 | apply sp7) <;> intro hb) <;> (simp only [go_sem, hb])) | ((first | apply wm_done | apply wt_done | apply wg_run | refine fk ?_ ?_) <;> (simp only [go_sem]))) | (first | refine cdq ?_ (hc := hc) | refine cmq ?_ (hc := hc) | refine ctq ?_ (hc := hc)); (simp only [go_sem]) | (first | refine cdq ?_ (hc := ha) | refine cmq ?_ (hc := ha) | refine ctq ?_ (hc := ha)); (simp only [go_sem]) | (first | (refine wl_next (wg_run ?_); (simp only [go_sem])) | refine wd_rounds 6 ?_) | ((first | refine mxq6 [] ?_ | refine mxq5 [] ?_ | refine mxq4 [] ?_ | refine mxq3 [] ?_ | refine mxq2 [] ?_ | refine mxq1 [] ?_ | refine mxq0 [] ?_ | fail); (simp only [go_sem])) | fail)
      (refine hR _ (rat [] (hK := ⟨rfl, rfl⟩)))
    · rw [hcy] at hc
      rw [show names (fun x => o x || ((E.var y).fr x && !z x)) = names o from names_congr fun x _ => by
        simp only [E.fr]
        by_cases e1 : y = x
        · subst e1; rw [hcy]; simp
        · simp [e1]]
      generalize names o = m2 at *
      generalize names z = m3 at *
      simp only [E.tm, nd]
      refine fn_in ?_; refine acl_in Try.func66 rfl isfn_66 (Nat.le_of_ble_eq_true rfl) (fun R hR => ?_); rw [Try.results66] at hR; refine wg_run ?_; (simp only [Try.f66, go_sem])
      repeat' (first | (first | (((first | apply sp1 | apply sp2 | apply sp3 | apply sp4 | apply sp5 | apply sp6 | apply sp7) <;> intro hb) <;> (simp only [go_sem, hb])) | ((first | apply wm_done | apply wt_done | apply wg_run | refine fk ?_ ?_) <;> (simp only [go_sem]))) | (first | refine cdq ?_ (hc := hc) | refine cmq ?_ (hc := hc) | refine ctq ?_ (hc := hc)); (simp only [go_sem]) | (first | (refine wl_next (wg_run ?_); (simp only [go_sem])) | refine wd_rounds 6 ?_) | ((first | refine mxq6 [] ?_ | refine mxq5 [] ?_ | refine mxq4 [] ?_ | refine mxq3 [] ?_ | refine mxq2 [] ?_ | refine mxq1 [] ?_ | refine mxq0 [] ?_ | fail); (simp only [go_sem])) | fail)
      (refine hR _ (rat [] (hK := ⟨rfl, rfl⟩)))
  | num n =>
    intro hw o z
    rw [show names (fun x => o x || ((E.num n).fr x && !z x)) = names o from names_congr fun x _ => by simp [E.fr]]
    generalize names o = m2 at *
    generalize names z = m3 at *
    simp only [E.tm, nd]
    refine fn_in ?_; refine acl_in Try.func66 rfl isfn_66 (Nat.le_of_ble_eq_true rfl) (fun R hR => ?_); rw [Try.results66] at hR; refine wg_run ?_; (simp only [Try.f66, go_sem])
    repeat' (first | (first | (((first | apply sp1 | apply sp2 | apply sp3 | apply sp4 | apply sp5 | apply sp6 | apply sp7) <;> intro hb) <;> (simp only [go_sem, hb])) | ((first | apply wm_done | apply wt_done | apply wg_run | refine fk ?_ ?_) <;> (simp only [go_sem]))) | (first | (refine wl_next (wg_run ?_); (simp only [go_sem])) | refine wd_rounds 6 ?_) | ((first | refine mxq6 [] ?_ | refine mxq5 [] ?_ | refine mxq4 [] ?_ | refine mxq3 [] ?_ | refine mxq2 [] ?_ | refine mxq1 [] ?_ | refine mxq0 [] ?_ | fail); (simp only [go_sem])) | fail)
    (refine hR _ (rat [] (hK := ⟨rfl, rfl⟩)))
  | tru =>
    intro hw o z
    rw [show names (fun x => o x || ((E.tru).fr x && !z x)) = names o from names_congr fun x _ => by simp [E.fr]]
    generalize names o = m2 at *
    generalize names z = m3 at *
    simp only [E.tm, nd]
    refine fn_in ?_; refine acl_in Try.func66 rfl isfn_66 (Nat.le_of_ble_eq_true rfl) (fun R hR => ?_); rw [Try.results66] at hR; refine wg_run ?_; (simp only [Try.f66, go_sem])
    repeat' (first | (first | (((first | apply sp1 | apply sp2 | apply sp3 | apply sp4 | apply sp5 | apply sp6 | apply sp7) <;> intro hb) <;> (simp only [go_sem, hb])) | ((first | apply wm_done | apply wt_done | apply wg_run | refine fk ?_ ?_) <;> (simp only [go_sem]))) | (first | (refine wl_next (wg_run ?_); (simp only [go_sem])) | refine wd_rounds 6 ?_) | ((first | refine mxq6 [] ?_ | refine mxq5 [] ?_ | refine mxq4 [] ?_ | refine mxq3 [] ?_ | refine mxq2 [] ?_ | refine mxq1 [] ?_ | refine mxq0 [] ?_ | fail); (simp only [go_sem])) | fail)
    (refine hR _ (rat [] (hK := ⟨rfl, rfl⟩)))
  | fls =>
    intro hw o z
    rw [show names (fun x => o x || ((E.fls).fr x && !z x)) = names o from names_congr fun x _ => by simp [E.fr]]
    generalize names o = m2 at *
    generalize names z = m3 at *
    simp only [E.tm, nd]
    refine fn_in ?_; refine acl_in Try.func66 rfl isfn_66 (Nat.le_of_ble_eq_true rfl) (fun R hR => ?_); rw [Try.results66] at hR; refine wg_run ?_; (simp only [Try.f66, go_sem])
    repeat' (first | (first | (((first | apply sp1 | apply sp2 | apply sp3 | apply sp4 | apply sp5 | apply sp6 | apply sp7) <;> intro hb) <;> (simp only [go_sem, hb])) | ((first | apply wm_done | apply wt_done | apply wg_run | refine fk ?_ ?_) <;> (simp only [go_sem]))) | (first | (refine wl_next (wg_run ?_); (simp only [go_sem])) | refine wd_rounds 6 ?_) | ((first | refine mxq6 [] ?_ | refine mxq5 [] ?_ | refine mxq4 [] ?_ | refine mxq3 [] ?_ | refine mxq2 [] ?_ | refine mxq1 [] ?_ | refine mxq0 [] ?_ | fail); (simp only [go_sem])) | fail)
    (refine hR _ (rat [] (hK := ⟨rfl, rfl⟩)))
  | lam y t a ih =>
    intro hw o z
    simp only [E.wf, Bool.and_eq_true] at hw
    have h1 := ih hw.2.2 o (fun x => z x || x == y)
    have ha := l2AddN z y hw.1
    rw [show names (fun x => o x || ((E.lam y t a).fr x && !z x)) = names (fun x => o x || (a.fr x && !(z x || x == y))) from names_congr fun x _ => by
      simp only [E.fr]
      by_cases e1 : y = x
      · subst e1; simp
      · have e2 : (x == y) = false := by simp; exact fun h => e1 h.symm
        have e3 : (y == x) = false := by simpa using e1
        rw [e2, e3]; simp]
    generalize names (fun x => o x || (a.fr x && !(z x || x == y))) = m4 at *
    generalize names (fun x => z x || x == y) = m1 at *
    generalize names o = m2 at *
    generalize names z = m3 at *
    simp only [E.tm, nd]
    generalize a.tm = a1 at *
    refine fn_in ?_; refine acl_in Try.func66 rfl isfn_66 (Nat.le_of_ble_eq_true rfl) (fun R hR => ?_); rw [Try.results66] at hR; refine wg_run ?_; (simp only [Try.f66, go_sem])
    repeat' (first | (first | (((first | apply sp1 | apply sp2 | apply sp3 | apply sp4 | apply sp5 | apply sp6 | apply sp7) <;> intro hb) <;> (simp only [go_sem, hb])) | ((first | apply wm_done | apply wt_done | apply wg_run | refine fk ?_ ?_) <;> (simp only [go_sem]))) | (first | refine cdq ?_ (hc := ha) | refine cmq ?_ (hc := ha) | refine ctq ?_ (hc := ha)); (simp only [go_sem]) | (first | refine cdq ?_ (hc := h1) | refine cmq ?_ (hc := h1) | refine ctq ?_ (hc := h1)); (simp only [go_sem]) | (first | (refine wl_next (wg_run ?_); (simp only [go_sem])) | refine wd_rounds 6 ?_) | ((first | refine mxq6 [] ?_ | refine mxq5 [] ?_ | refine mxq4 [] ?_ | refine mxq3 [] ?_ | refine mxq2 [] ?_ | refine mxq1 [] ?_ | refine mxq0 [] ?_ | fail); (simp only [go_sem])) | fail)
    (refine hR _ (rat [] (hK := ⟨rfl, rfl⟩)))
  | app a b iha ihb =>
    intro hw o z
    simp only [E.wf, Bool.and_eq_true] at hw
    have h1 := iha hw.1 (o) z
    have h2 := ihb hw.2 (fun x => o x || (a.fr x && !z x)) z
    rw [show names (fun x => o x || ((E.app a b).fr x && !z x)) = names (fun x => (fun x => o x || (a.fr x && !z x)) x || (b.fr x && !z x)) from names_congr fun x _ => by
      simp only [E.fr]
      try (cases o x <;> cases z x <;> simp [Bool.or_assoc])]
    generalize names (fun x => (fun x => o x || (a.fr x && !z x)) x || (b.fr x && !z x)) = m2 at *
    generalize names (fun x => o x || (a.fr x && !z x)) = m1 at *
    generalize names (o) = m0 at *
    generalize names z = mb at *
    simp only [E.tm, nd]
    generalize a.tm = a1 at *
    generalize b.tm = b1 at *
    refine fn_in ?_; refine acl_in Try.func66 rfl isfn_66 (Nat.le_of_ble_eq_true rfl) (fun R hR => ?_); rw [Try.results66] at hR; refine wg_run ?_; (simp only [Try.f66, go_sem])
    repeat' (first | (first | (((first | apply sp1 | apply sp2 | apply sp3 | apply sp4 | apply sp5 | apply sp6 | apply sp7) <;> intro hb) <;> (simp only [go_sem, hb])) | ((first | apply wm_done | apply wt_done | apply wg_run | refine fk ?_ ?_) <;> (simp only [go_sem]))) | (first | refine cdq ?_ (hc := h1) | refine cmq ?_ (hc := h1) | refine ctq ?_ (hc := h1)); (simp only [go_sem]) | (first | refine cdq ?_ (hc := h2) | refine cmq ?_ (hc := h2) | refine ctq ?_ (hc := h2)); (simp only [go_sem]) | (first | (refine wl_next (wg_run ?_); (simp only [go_sem])) | refine wd_rounds 6 ?_) | ((first | refine mxq6 [] ?_ | refine mxq5 [] ?_ | refine mxq4 [] ?_ | refine mxq3 [] ?_ | refine mxq2 [] ?_ | refine mxq1 [] ?_ | refine mxq0 [] ?_ | fail); (simp only [go_sem])) | fail)
    (refine hR _ (rat [] (hK := ⟨rfl, rfl⟩)))
  | add a b iha ihb =>
    intro hw o z
    simp only [E.wf, Bool.and_eq_true] at hw
    have h1 := iha hw.1 (o) z
    have h2 := ihb hw.2 (fun x => o x || (a.fr x && !z x)) z
    rw [show names (fun x => o x || ((E.add a b).fr x && !z x)) = names (fun x => (fun x => o x || (a.fr x && !z x)) x || (b.fr x && !z x)) from names_congr fun x _ => by
      simp only [E.fr]
      try (cases o x <;> cases z x <;> simp [Bool.or_assoc])]
    generalize names (fun x => (fun x => o x || (a.fr x && !z x)) x || (b.fr x && !z x)) = m2 at *
    generalize names (fun x => o x || (a.fr x && !z x)) = m1 at *
    generalize names (o) = m0 at *
    generalize names z = mb at *
    simp only [E.tm, nd]
    generalize a.tm = a1 at *
    generalize b.tm = b1 at *
    refine fn_in ?_; refine acl_in Try.func66 rfl isfn_66 (Nat.le_of_ble_eq_true rfl) (fun R hR => ?_); rw [Try.results66] at hR; refine wg_run ?_; (simp only [Try.f66, go_sem])
    repeat' (first | (first | (((first | apply sp1 | apply sp2 | apply sp3 | apply sp4 | apply sp5 | apply sp6 | apply sp7) <;> intro hb) <;> (simp only [go_sem, hb])) | ((first | apply wm_done | apply wt_done | apply wg_run | refine fk ?_ ?_) <;> (simp only [go_sem]))) | (first | refine cdq ?_ (hc := h1) | refine cmq ?_ (hc := h1) | refine ctq ?_ (hc := h1)); (simp only [go_sem]) | (first | refine cdq ?_ (hc := h2) | refine cmq ?_ (hc := h2) | refine ctq ?_ (hc := h2)); (simp only [go_sem]) | (first | (refine wl_next (wg_run ?_); (simp only [go_sem])) | refine wd_rounds 6 ?_) | ((first | refine mxq6 [] ?_ | refine mxq5 [] ?_ | refine mxq4 [] ?_ | refine mxq3 [] ?_ | refine mxq2 [] ?_ | refine mxq1 [] ?_ | refine mxq0 [] ?_ | fail); (simp only [go_sem])) | fail)
    (refine hR _ (rat [] (hK := ⟨rfl, rfl⟩)))
  | less a b iha ihb =>
    intro hw o z
    simp only [E.wf, Bool.and_eq_true] at hw
    have h1 := iha hw.1 (o) z
    have h2 := ihb hw.2 (fun x => o x || (a.fr x && !z x)) z
    rw [show names (fun x => o x || ((E.less a b).fr x && !z x)) = names (fun x => (fun x => o x || (a.fr x && !z x)) x || (b.fr x && !z x)) from names_congr fun x _ => by
      simp only [E.fr]
      try (cases o x <;> cases z x <;> simp [Bool.or_assoc])]
    generalize names (fun x => (fun x => o x || (a.fr x && !z x)) x || (b.fr x && !z x)) = m2 at *
    generalize names (fun x => o x || (a.fr x && !z x)) = m1 at *
    generalize names (o) = m0 at *
    generalize names z = mb at *
    simp only [E.tm, nd]
    generalize a.tm = a1 at *
    generalize b.tm = b1 at *
    refine fn_in ?_; refine acl_in Try.func66 rfl isfn_66 (Nat.le_of_ble_eq_true rfl) (fun R hR => ?_); rw [Try.results66] at hR; refine wg_run ?_; (simp only [Try.f66, go_sem])
    repeat' (first | (first | (((first | apply sp1 | apply sp2 | apply sp3 | apply sp4 | apply sp5 | apply sp6 | apply sp7) <;> intro hb) <;> (simp only [go_sem, hb])) | ((first | apply wm_done | apply wt_done | apply wg_run | refine fk ?_ ?_) <;> (simp only [go_sem]))) | (first | refine cdq ?_ (hc := h1) | refine cmq ?_ (hc := h1) | refine ctq ?_ (hc := h1)); (simp only [go_sem]) | (first | refine cdq ?_ (hc := h2) | refine cmq ?_ (hc := h2) | refine ctq ?_ (hc := h2)); (simp only [go_sem]) | (first | (refine wl_next (wg_run ?_); (simp only [go_sem])) | refine wd_rounds 6 ?_) | ((first | refine mxq6 [] ?_ | refine mxq5 [] ?_ | refine mxq4 [] ?_ | refine mxq3 [] ?_ | refine mxq2 [] ?_ | refine mxq1 [] ?_ | refine mxq0 [] ?_ | fail); (simp only [go_sem])) | fail)
    (refine hR _ (rat [] (hK := ⟨rfl, rfl⟩)))
  | pair a b iha ihb =>
    intro hw o z
    simp only [E.wf, Bool.and_eq_true] at hw
    have h1 := iha hw.1 (o) z
    have h2 := ihb hw.2 (fun x => o x || (a.fr x && !z x)) z
    rw [show names (fun x => o x || ((E.pair a b).fr x && !z x)) = names (fun x => (fun x => o x || (a.fr x && !z x)) x || (b.fr x && !z x)) from names_congr fun x _ => by
      simp only [E.fr]
      try (cases o x <;> cases z x <;> simp [Bool.or_assoc])]
    generalize names (fun x => (fun x => o x || (a.fr x && !z x)) x || (b.fr x && !z x)) = m2 at *
    generalize names (fun x => o x || (a.fr x && !z x)) = m1 at *
    generalize names (o) = m0 at *
    generalize names z = mb at *
    simp only [E.tm, nd]
    generalize a.tm = a1 at *
    generalize b.tm = b1 at *
    refine fn_in ?_; refine acl_in Try.func66 rfl isfn_66 (Nat.le_of_ble_eq_true rfl) (fun R hR => ?_); rw [Try.results66] at hR; refine wg_run ?_; (simp only [Try.f66, go_sem])
    repeat' (first | (first | (((first | apply sp1 | apply sp2 | apply sp3 | apply sp4 | apply sp5 | apply sp6 | apply sp7) <;> intro hb) <;> (simp only [go_sem, hb])) | ((first | apply wm_done | apply wt_done | apply wg_run | refine fk ?_ ?_) <;> (simp only [go_sem]))) | (first | refine cdq ?_ (hc := h1) | refine cmq ?_ (hc := h1) | refine ctq ?_ (hc := h1)); (simp only [go_sem]) | (first | refine cdq ?_ (hc := h2) | refine cmq ?_ (hc := h2) | refine ctq ?_ (hc := h2)); (simp only [go_sem]) | (first | (refine wl_next (wg_run ?_); (simp only [go_sem])) | refine wd_rounds 6 ?_) | ((first | refine mxq6 [] ?_ | refine mxq5 [] ?_ | refine mxq4 [] ?_ | refine mxq3 [] ?_ | refine mxq2 [] ?_ | refine mxq1 [] ?_ | refine mxq0 [] ?_ | fail); (simp only [go_sem])) | fail)
    (refine hR _ (rat [] (hK := ⟨rfl, rfl⟩)))
  | ite a b c iha ihb ihc =>
    intro hw o z
    simp only [E.wf, Bool.and_eq_true] at hw
    have h1 := iha hw.1 (o) z
    have h2 := ihb hw.2.1 (fun x => o x || (a.fr x && !z x)) z
    have h3 := ihc hw.2.2 (fun x => (fun x => o x || (a.fr x && !z x)) x || (b.fr x && !z x)) z
    rw [show names (fun x => o x || ((E.ite a b c).fr x && !z x)) = names (fun x => (fun x => (fun x => o x || (a.fr x && !z x)) x || (b.fr x && !z x)) x || (c.fr x && !z x)) from names_congr fun x _ => by
      simp only [E.fr]
      try (cases o x <;> cases z x <;> simp [Bool.or_assoc])]
    generalize names (fun x => (fun x => (fun x => o x || (a.fr x && !z x)) x || (b.fr x && !z x)) x || (c.fr x && !z x)) = m3 at *
    generalize names (fun x => (fun x => o x || (a.fr x && !z x)) x || (b.fr x && !z x)) = m2 at *
    generalize names (fun x => o x || (a.fr x && !z x)) = m1 at *
    generalize names (o) = m0 at *
    generalize names z = mb at *
    simp only [E.tm, nd]
    generalize a.tm = a1 at *
    generalize b.tm = b1 at *
    generalize c.tm = c1 at *
    refine fn_in ?_; refine acl_in Try.func66 rfl isfn_66 (Nat.le_of_ble_eq_true rfl) (fun R hR => ?_); rw [Try.results66] at hR; refine wg_run ?_; (simp only [Try.f66, go_sem])
    repeat' (first | (first | (((first | apply sp1 | apply sp2 | apply sp3 | apply sp4 | apply sp5 | apply sp6 | apply sp7) <;> intro hb) <;> (simp only [go_sem, hb])) | ((first | apply wm_done | apply wt_done | apply wg_run | refine fk ?_ ?_) <;> (simp only [go_sem]))) | (first | refine cdq ?_ (hc := h1) | refine cmq ?_ (hc := h1) | refine ctq ?_ (hc := h1)); (simp only [go_sem]) | (first | refine cdq ?_ (hc := h2) | refine cmq ?_ (hc := h2) | refine ctq ?_ (hc := h2)); (simp only [go_sem]) | (first | refine cdq ?_ (hc := h3) | refine cmq ?_ (hc := h3) | refine ctq ?_ (hc := h3)); (simp only [go_sem]) | (first | (refine wl_next (wg_run ?_); (simp only [go_sem])) | refine wd_rounds 6 ?_) | ((first | refine mxq6 [] ?_ | refine mxq5 [] ?_ | refine mxq4 [] ?_ | refine mxq3 [] ?_ | refine mxq2 [] ?_ | refine mxq1 [] ?_ | refine mxq0 [] ?_ | fail); (simp only [go_sem])) | fail)
    (refine hR _ (rat [] (hK := ⟨rfl, rfl⟩)))
  | fst a iha =>
    intro hw o z
    simp only [E.wf] at hw
    have h1 := iha hw (o) z
    rw [show names (fun x => o x || ((E.fst a).fr x && !z x)) = names (fun x => o x || (a.fr x && !z x)) from names_congr fun x _ => by
      simp only [E.fr]
      try (cases o x <;> cases z x <;> simp [Bool.or_assoc])]
    generalize names (fun x => o x || (a.fr x && !z x)) = m1 at *
    generalize names (o) = m0 at *
    generalize names z = mb at *
    simp only [E.tm, nd]
    generalize a.tm = a1 at *
    refine fn_in ?_; refine acl_in Try.func66 rfl isfn_66 (Nat.le_of_ble_eq_true rfl) (fun R hR => ?_); rw [Try.results66] at hR; refine wg_run ?_; (simp only [Try.f66, go_sem])
    repeat' (first | (first | (((first | apply sp1 | apply sp2 | apply sp3 | apply sp4 | apply sp5 | apply sp6 | apply sp7) <;> intro hb) <;> (simp only [go_sem, hb])) | ((first | apply wm_done | apply wt_done | apply wg_run | refine fk ?_ ?_) <;> (simp only [go_sem]))) | (first | refine cdq ?_ (hc := h1) | refine cmq ?_ (hc := h1) | refine ctq ?_ (hc := h1)); (simp only [go_sem]) | (first | (refine wl_next (wg_run ?_); (simp only [go_sem])) | refine wd_rounds 6 ?_) | ((first | refine mxq6 [] ?_ | refine mxq5 [] ?_ | refine mxq4 [] ?_ | refine mxq3 [] ?_ | refine mxq2 [] ?_ | refine mxq1 [] ?_ | refine mxq0 [] ?_ | fail); (simp only [go_sem])) | fail)
    (refine hR _ (rat [] (hK := ⟨rfl, rfl⟩)))
  | snd a iha =>
    intro hw o z
    simp only [E.wf] at hw
    have h1 := iha hw (o) z
    rw [show names (fun x => o x || ((E.snd a).fr x && !z x)) = names (fun x => o x || (a.fr x && !z x)) from names_congr fun x _ => by
      simp only [E.fr]
      try (cases o x <;> cases z x <;> simp [Bool.or_assoc])]
    generalize names (fun x => o x || (a.fr x && !z x)) = m1 at *
    generalize names (o) = m0 at *
    generalize names z = mb at *
    simp only [E.tm, nd]
    generalize a.tm = a1 at *
    refine fn_in ?_; refine acl_in Try.func66 rfl isfn_66 (Nat.le_of_ble_eq_true rfl) (fun R hR => ?_); rw [Try.results66] at hR; refine wg_run ?_; (simp only [Try.f66, go_sem])
    repeat' (first | (first | (((first | apply sp1 | apply sp2 | apply sp3 | apply sp4 | apply sp5 | apply sp6 | apply sp7) <;> intro hb) <;> (simp only [go_sem, hb])) | ((first | apply wm_done | apply wt_done | apply wg_run | refine fk ?_ ?_) <;> (simp only [go_sem]))) | (first | refine cdq ?_ (hc := h1) | refine cmq ?_ (hc := h1) | refine ctq ?_ (hc := h1)); (simp only [go_sem]) | (first | (refine wl_next (wg_run ?_); (simp only [go_sem])) | refine wd_rounds 6 ?_) | ((first | refine mxq6 [] ?_ | refine mxq5 [] ?_ | refine mxq4 [] ?_ | refine mxq3 [] ?_ | refine mxq2 [] ?_ | refine mxq1 [] ?_ | refine mxq0 [] ?_ | fail); (simp only [go_sem])) | fail)
    (refine hR _ (rat [] (hK := ⟨rfl, rfl⟩)))
  | asc t a iha =>
    intro hw o z
    simp only [E.wf, Bool.and_eq_true] at hw
    have h1 := iha hw.2 (o) z
    rw [show names (fun x => o x || ((E.asc t a).fr x && !z x)) = names (fun x => o x || (a.fr x && !z x)) from names_congr fun x _ => by
      simp only [E.fr]
      try (cases o x <;> cases z x <;> simp [Bool.or_assoc])]
    generalize names (fun x => o x || (a.fr x && !z x)) = m1 at *
    generalize names (o) = m0 at *
    generalize names z = mb at *
    simp only [E.tm, nd]
    generalize a.tm = a1 at *
    refine fn_in ?_; refine acl_in Try.func66 rfl isfn_66 (Nat.le_of_ble_eq_true rfl) (fun R hR => ?_); rw [Try.results66] at hR; refine wg_run ?_; (simp only [Try.f66, go_sem])
    repeat' (first | (first | (((first | apply sp1 | apply sp2 | apply sp3 | apply sp4 | apply sp5 | apply sp6 | apply sp7) <;> intro hb) <;> (simp only [go_sem, hb])) | ((first | apply wm_done | apply wt_done | apply wg_run | refine fk ?_ ?_) <;> (simp only [go_sem]))) | (first | refine cdq ?_ (hc := h1) | refine cmq ?_ (hc := h1) | refine ctq ?_ (hc := h1)); (simp only [go_sem]) | (first | (refine wl_next (wg_run ?_); (simp only [go_sem])) | refine wd_rounds 6 ?_) | ((first | refine mxq6 [] ?_ | refine mxq5 [] ?_ | refine mxq4 [] ?_ | refine mxq3 [] ?_ | refine mxq2 [] ?_ | refine mxq1 [] ?_ | refine mxq0 [] ?_ | fail); (simp only [go_sem])) | fail)
    (refine hR _ (rat [] (hK := ⟨rfl, rfl⟩)))
  | cast s t k a iha =>
    intro hw o z
    simp only [E.wf, Bool.and_eq_true] at hw
    have h1 := iha hw.2.2.2 (o) z
    rw [show names (fun x => o x || ((E.cast s t k a).fr x && !z x)) = names (fun x => o x || (a.fr x && !z x)) from names_congr fun x _ => by
      simp only [E.fr]
      try (cases o x <;> cases z x <;> simp [Bool.or_assoc])]
    generalize names (fun x => o x || (a.fr x && !z x)) = m1 at *
    generalize names (o) = m0 at *
    generalize names z = mb at *
    simp only [E.tm, nd]
    generalize a.tm = a1 at *
    refine fn_in ?_; refine acl_in Try.func66 rfl isfn_66 (Nat.le_of_ble_eq_true rfl) (fun R hR => ?_); rw [Try.results66] at hR; refine wg_run ?_; (simp only [Try.f66, go_sem])
    repeat' (first | (first | (((first | apply sp1 | apply sp2 | apply sp3 | apply sp4 | apply sp5 | apply sp6 | apply sp7) <;> intro hb) <;> (simp only [go_sem, hb])) | ((first | apply wm_done | apply wt_done | apply wg_run | refine fk ?_ ?_) <;> (simp only [go_sem]))) | (first | refine cdq ?_ (hc := h1) | refine cmq ?_ (hc := h1) | refine ctq ?_ (hc := h1)); (simp only [go_sem]) | (first | (refine wl_next (wg_run ?_); (simp only [go_sem])) | refine wd_rounds 6 ?_) | ((first | refine mxq6 [] ?_ | refine mxq5 [] ?_ | refine mxq4 [] ?_ | refine mxq3 [] ?_ | refine mxq2 [] ?_ | refine mxq1 [] ?_ | refine mxq0 [] ?_ | fail); (simp only [go_sem])) | fail)
    (refine hR _ (rat [] (hK := ⟨rfl, rfl⟩)))
end Go.Proofs.Ytfgjiamolknicaa
/- Steps of terms with casts: substitution, in the reference. On shadows. -/
namespace Go.Proofs.Ytfgjiamolknicaa
open Go.RowKit Go.Proofs.Sh Go.Proofs.Grad
set_option maxRecDepth 100000
set_option maxHeartbeats 8000000
theorem sSubst (x : UInt8) (v : E) (hv : v.tm.size < 100000000) (e : E) : e.wf = true → e.tm.size < 100000000 → AFn Try.prog 74 [.agg (teC e.tm), .one (.sc (.string (nm x))), .agg (teC v.tm)] (.agg (teC (e.subst x v).tm)) := by
  have hvc := l2Copy 274877906944 (by omega) v.tm (by omega)
  have hno : AFn Try.prog 139 [.agg (tyC noTy)] (.agg (tyC noTy)) := l1Copy 1000 (by omega) noTy (by simp [noTy, Ty.size, Ty.sizes])
  induction e with
  | var y =>
    intro hw hz
    have hn := nm_beq y x
    simp only [E.subst]
    cases e1 : (y == x)
    all_goals
      rw [e1] at hn
      simp only [E.tm]
      refine fn_in ?_; refine acl_in Try.func74 rfl isfn_74 (Nat.le_of_ble_eq_true rfl) (fun R hR => ?_); rw [Try.results74] at hR; refine wg_run ?_; (simp only [Try.f74, go_sem, hn])
      repeat' (first | (first | (simp only [go_sem, hn]) | (((first | apply sp1 | apply sp2 | apply sp3 | apply sp4 | apply sp5 | apply sp6 | apply sp7) <;> intro hb) <;> (simp only [go_sem, hb, hn])) | ((first | apply wm_done | apply wt_done | apply wg_run | refine fk ?_ ?_) <;> (simp only [go_sem, hn]))) | (first | (refine wl_next (wg_run ?_); (simp only [go_sem])) | refine wd_rounds 6 ?_) | (first | refine cdq ?_ (hc := hvc) | refine cmq ?_ (hc := hvc) | refine ctq ?_ (hc := hvc)); (simp only [go_sem]) | (first | refine cdq ?_ (hc := hno) | refine cmq ?_ (hc := hno) | refine ctq ?_ (hc := hno)); (simp only [go_sem]) | ((first | refine mxq6 [] ?_ | refine mxq5 [] ?_ | refine mxq4 [] ?_ | refine mxq3 [] ?_ | refine mxq2 [] ?_ | refine mxq1 [] ?_ | refine mxq0 [] ?_ | fail); (simp only [go_sem, hn])) | fail)
      (refine hR _ ?_; refine rat [] (hK := ⟨rfl, rfl⟩))
  | lam y t a ih =>
    intro hw hz
    have hn := nm_beq y x
    have hec := l2Copy 274877906944 (by omega) (E.lam y t a).tm (by omega)
    simp only [E.wf, Bool.and_eq_true, decide_eq_true_eq] at hw
    simp only [E.tm, nd, Tm.size, Tm.sizes] at hz
    have ih := ih hw.2.2 (by omega)
    have ht := l1Copy 1000 (by omega) t.ty (T.ty_small hw.2.1)
    simp only [E.subst]
    cases e1 : (y == x)
    all_goals
      rw [e1] at hn
      simp only [E.tm] at hec ⊢
      refine fn_in ?_; refine acl_in Try.func74 rfl isfn_74 (Nat.le_of_ble_eq_true rfl) (fun R hR => ?_); rw [Try.results74] at hR; refine wg_run ?_; (simp only [Try.f74, go_sem, hn])
      repeat' (first | (first | (simp only [go_sem, hn]) | (((first | apply sp1 | apply sp2 | apply sp3 | apply sp4 | apply sp5 | apply sp6 | apply sp7) <;> intro hb) <;> (simp only [go_sem, hb, hn])) | ((first | apply wm_done | apply wt_done | apply wg_run | refine fk ?_ ?_) <;> (simp only [go_sem, hn]))) | (first | (refine wl_next (wg_run ?_); (simp only [go_sem])) | refine wd_rounds 6 ?_) | (first | refine cdq ?_ (hc := hec) | refine cmq ?_ (hc := hec) | refine ctq ?_ (hc := hec)); (simp only [go_sem]) | (first | refine cdq ?_ (hc := ht) | refine cmq ?_ (hc := ht) | refine ctq ?_ (hc := ht)); (simp only [go_sem]) | (first | refine cdq ?_ (hc := hno) | refine cmq ?_ (hc := hno) | refine ctq ?_ (hc := hno)); (simp only [go_sem]) | (first | refine cdq ?_ (hc := ih) | refine cmq ?_ (hc := ih) | refine ctq ?_ (hc := ih)); (simp only [go_sem]) | ((first | refine mxq6 [] ?_ | refine mxq5 [] ?_ | refine mxq4 [] ?_ | refine mxq3 [] ?_ | refine mxq2 [] ?_ | refine mxq1 [] ?_ | refine mxq0 [] ?_ | fail); (simp only [go_sem, hn])) | fail)
      (refine hR _ ?_; refine rat [] (hK := ⟨rfl, rfl⟩))
  | num _ | tru | fls =>
    intro hw hz
    simp only [E.subst, E.tm, nd]
    refine fn_in ?_; refine acl_in Try.func74 rfl isfn_74 (Nat.le_of_ble_eq_true rfl) (fun R hR => ?_); rw [Try.results74] at hR; refine wg_run ?_; (simp only [Try.f74, go_sem])
    repeat' (first | (first | (((first | apply sp1 | apply sp2 | apply sp3 | apply sp4 | apply sp5 | apply sp6 | apply sp7) <;> intro hb) <;> (simp only [go_sem, hb])) | ((first | apply wm_done | apply wt_done | apply wg_run | refine fk ?_ ?_) <;> (simp only [go_sem]))) | (first | (refine wl_next (wg_run ?_); (simp only [go_sem])) | refine wd_rounds 6 ?_) | (first | refine cdq ?_ (hc := hno) | refine cmq ?_ (hc := hno) | refine ctq ?_ (hc := hno)); (simp only [go_sem]) | fail)
    (refine hR _ ?_; refine rat [] (hK := ⟨rfl, rfl⟩))
  | app a b iha ihb | add a b iha ihb | less a b iha ihb | pair a b iha ihb =>
    intro hw hz
    simp only [E.wf, Bool.and_eq_true] at hw
    simp only [E.tm, nd, Tm.size, Tm.sizes] at hz
    have iha := iha hw.1 (by omega)
    have ihb := ihb hw.2 (by omega)
    simp only [E.subst, E.tm, nd]
    refine fn_in ?_; refine acl_in Try.func74 rfl isfn_74 (Nat.le_of_ble_eq_true rfl) (fun R hR => ?_); rw [Try.results74] at hR; refine wg_run ?_; (simp only [Try.f74, go_sem])
    repeat' (first | (first | (((first | apply sp1 | apply sp2 | apply sp3 | apply sp4 | apply sp5 | apply sp6 | apply sp7) <;> intro hb) <;> (simp only [go_sem, hb])) | ((first | apply wm_done | apply wt_done | apply wg_run | refine fk ?_ ?_) <;> (simp only [go_sem]))) | (first | (refine wl_next (wg_run ?_); (simp only [go_sem])) | refine wd_rounds 6 ?_) | (first | refine cdq ?_ (hc := hno) | refine cmq ?_ (hc := hno) | refine ctq ?_ (hc := hno)); (simp only [go_sem]) | (first | refine cdq ?_ (hc := iha) | refine cmq ?_ (hc := iha) | refine ctq ?_ (hc := iha)); (simp only [go_sem]) | (first | refine cdq ?_ (hc := ihb) | refine cmq ?_ (hc := ihb) | refine ctq ?_ (hc := ihb)); (simp only [go_sem]) | ((first | refine mxq6 [] ?_ | refine mxq5 [] ?_ | refine mxq4 [] ?_ | refine mxq3 [] ?_ | refine mxq2 [] ?_ | refine mxq1 [] ?_ | refine mxq0 [] ?_ | fail); (simp only [go_sem])) | fail)
    (refine hR _ ?_; refine rat [] (hK := ⟨rfl, rfl⟩))
  | ite a b c iha ihb ihc =>
    intro hw hz
    simp only [E.wf, Bool.and_eq_true] at hw
    simp only [E.tm, nd, Tm.size, Tm.sizes] at hz
    have iha := iha hw.1 (by omega)
    have ihb := ihb hw.2.1 (by omega)
    have ihc := ihc hw.2.2 (by omega)
    simp only [E.subst, E.tm, nd]
    refine fn_in ?_; refine acl_in Try.func74 rfl isfn_74 (Nat.le_of_ble_eq_true rfl) (fun R hR => ?_); rw [Try.results74] at hR; refine wg_run ?_; (simp only [Try.f74, go_sem])
    repeat' (first | (first | (((first | apply sp1 | apply sp2 | apply sp3 | apply sp4 | apply sp5 | apply sp6 | apply sp7) <;> intro hb) <;> (simp only [go_sem, hb])) | ((first | apply wm_done | apply wt_done | apply wg_run | refine fk ?_ ?_) <;> (simp only [go_sem]))) | (first | (refine wl_next (wg_run ?_); (simp only [go_sem])) | refine wd_rounds 6 ?_) | (first | refine cdq ?_ (hc := hno) | refine cmq ?_ (hc := hno) | refine ctq ?_ (hc := hno)); (simp only [go_sem]) | (first | refine cdq ?_ (hc := iha) | refine cmq ?_ (hc := iha) | refine ctq ?_ (hc := iha)); (simp only [go_sem]) | (first | refine cdq ?_ (hc := ihb) | refine cmq ?_ (hc := ihb) | refine ctq ?_ (hc := ihb)); (simp only [go_sem]) | (first | refine cdq ?_ (hc := ihc) | refine cmq ?_ (hc := ihc) | refine ctq ?_ (hc := ihc)); (simp only [go_sem]) | ((first | refine mxq6 [] ?_ | refine mxq5 [] ?_ | refine mxq4 [] ?_ | refine mxq3 [] ?_ | refine mxq2 [] ?_ | refine mxq1 [] ?_ | refine mxq0 [] ?_ | fail); (simp only [go_sem])) | fail)
    (refine hR _ ?_; refine rat [] (hK := ⟨rfl, rfl⟩))
  | fst a ih | snd a ih =>
    intro hw hz
    simp only [E.wf] at hw
    simp only [E.tm, nd, Tm.size, Tm.sizes] at hz
    have ih := ih hw (by omega)
    simp only [E.subst, E.tm, nd]
    refine fn_in ?_; refine acl_in Try.func74 rfl isfn_74 (Nat.le_of_ble_eq_true rfl) (fun R hR => ?_); rw [Try.results74] at hR; refine wg_run ?_; (simp only [Try.f74, go_sem])
    repeat' (first | (first | (((first | apply sp1 | apply sp2 | apply sp3 | apply sp4 | apply sp5 | apply sp6 | apply sp7) <;> intro hb) <;> (simp only [go_sem, hb])) | ((first | apply wm_done | apply wt_done | apply wg_run | refine fk ?_ ?_) <;> (simp only [go_sem]))) | (first | (refine wl_next (wg_run ?_); (simp only [go_sem])) | refine wd_rounds 6 ?_) | (first | refine cdq ?_ (hc := hno) | refine cmq ?_ (hc := hno) | refine ctq ?_ (hc := hno)); (simp only [go_sem]) | (first | refine cdq ?_ (hc := ih) | refine cmq ?_ (hc := ih) | refine ctq ?_ (hc := ih)); (simp only [go_sem]) | ((first | refine mxq6 [] ?_ | refine mxq5 [] ?_ | refine mxq4 [] ?_ | refine mxq3 [] ?_ | refine mxq2 [] ?_ | refine mxq1 [] ?_ | refine mxq0 [] ?_ | fail); (simp only [go_sem])) | fail)
    (refine hR _ ?_; refine rat [] (hK := ⟨rfl, rfl⟩))
  | cast s t l a ih =>
    intro hw hz
    simp only [E.wf, Bool.and_eq_true, decide_eq_true_eq] at hw
    simp only [E.tm, nd, Tm.size, Tm.sizes] at hz
    have ih := ih hw.2.2.2 (by omega)
    have ht := l1Copy 1000 (by omega) t.ty (T.ty_small hw.1.2)
    have hs := l1Copy 1000 (by omega) s.ty (T.ty_small hw.1.1)
    simp only [E.subst, E.tm, nd]
    refine fn_in ?_; refine acl_in Try.func74 rfl isfn_74 (Nat.le_of_ble_eq_true rfl) (fun R hR => ?_); rw [Try.results74] at hR; refine wg_run ?_; (simp only [Try.f74, go_sem])
    repeat' (first | (first | (((first | apply sp1 | apply sp2 | apply sp3 | apply sp4 | apply sp5 | apply sp6 | apply sp7) <;> intro hb) <;> (simp only [go_sem, hb])) | ((first | apply wm_done | apply wt_done | apply wg_run | refine fk ?_ ?_) <;> (simp only [go_sem]))) | (first | (refine wl_next (wg_run ?_); (simp only [go_sem])) | refine wd_rounds 6 ?_) | (first | refine cdq ?_ (hc := ht) | refine cmq ?_ (hc := ht) | refine ctq ?_ (hc := ht)); (simp only [go_sem]) | (first | refine cdq ?_ (hc := hs) | refine cmq ?_ (hc := hs) | refine ctq ?_ (hc := hs)); (simp only [go_sem]) | (first | refine cdq ?_ (hc := ih) | refine cmq ?_ (hc := ih) | refine ctq ?_ (hc := ih)); (simp only [go_sem]) | ((first | refine mxq6 [] ?_ | refine mxq5 [] ?_ | refine mxq4 [] ?_ | refine mxq3 [] ?_ | refine mxq2 [] ?_ | refine mxq1 [] ?_ | refine mxq0 [] ?_ | fail); (simp only [go_sem])) | fail)
    (refine hR _ ?_; refine rat [] (hK := ⟨rfl, rfl⟩))
  | _ =>
    rename_i t a ih
    intro hw hz
    simp only [E.wf, Bool.and_eq_true, decide_eq_true_eq] at hw
    simp only [E.tm, nd, Tm.size, Tm.sizes] at hz
    have ih := ih hw.2 (by omega)
    have ht := l1Copy 1000 (by omega) t.ty (T.ty_small hw.1)
    simp only [E.subst, E.tm, nd]
    refine fn_in ?_; refine acl_in Try.func74 rfl isfn_74 (Nat.le_of_ble_eq_true rfl) (fun R hR => ?_); rw [Try.results74] at hR; refine wg_run ?_; (simp only [Try.f74, go_sem])
    repeat' (first | (first | (((first | apply sp1 | apply sp2 | apply sp3 | apply sp4 | apply sp5 | apply sp6 | apply sp7) <;> intro hb) <;> (simp only [go_sem, hb])) | ((first | apply wm_done | apply wt_done | apply wg_run | refine fk ?_ ?_) <;> (simp only [go_sem]))) | (first | (refine wl_next (wg_run ?_); (simp only [go_sem])) | refine wd_rounds 6 ?_) | (first | refine cdq ?_ (hc := ht) | refine cmq ?_ (hc := ht) | refine ctq ?_ (hc := ht)); (simp only [go_sem]) | (first | refine cdq ?_ (hc := hno) | refine cmq ?_ (hc := hno) | refine ctq ?_ (hc := hno)); (simp only [go_sem]) | (first | refine cdq ?_ (hc := ih) | refine cmq ?_ (hc := ih) | refine ctq ?_ (hc := ih)); (simp only [go_sem]) | ((first | refine mxq6 [] ?_ | refine mxq5 [] ?_ | refine mxq4 [] ?_ | refine mxq3 [] ?_ | refine mxq2 [] ?_ | refine mxq1 [] ?_ | refine mxq0 [] ?_ | fail); (simp only [go_sem])) | fail)
    (refine hR _ ?_; refine rat [] (hK := ⟨rfl, rfl⟩))
end Go.Proofs.Ytfgjiamolknicaa
/- Typing of terms without casts: contexts and rules. No program, no world. -/
namespace Go.Proofs.Grad
abbrev Ctx := List (UInt8 × T)
/-- the last binding of a name -/
def look1 : Ctx → UInt8 → Option T
  | [], _ => none
  | (y, t) :: l, x => match look1 l x with | some u => some u | none => match y == x with | true => some t | false => none
def T.meet : T → T → T
  | .any, b => b
  | .fn a b, .fn c d => .fn (a.meet c) (b.meet d)
  | .pr a b, .pr c d => .pr (a.meet c) (b.meet d)
  | a, _ => a
theorem T.meet_depth (a : T) : ∀ b : T, (a.meet b).depth ≤ max a.depth b.depth := by
  induction a with
  | fn a1 a2 ih1 ih2 | pr a1 a2 ih1 ih2 =>
    intro b
    cases b with
    | fn b1 b2 | pr b1 b2 => have h1 := ih1 b1; have h2 := ih2 b2; simp only [T.meet, T.depth] at *; omega
    | _ => simp only [T.meet, T.depth]; omega
  | any => intro b; simp only [T.meet]; omega
  | _ => intro b; cases b <;> simp only [T.meet, T.depth] <;> omega
def twoF (a b : T) : Option T := match decide ((T.fn a b).depth ≤ 4) with | true => some (.fn a b) | false => none
def twoP (a b : T) : Option T := match decide ((T.pr a b).depth ≤ 4) with | true => some (.pr a b) | false => none
theorem twoF_depth {a b t : T} (h : twoF a b = some t) : t.depth ≤ 4 := by
  unfold twoF at h; split at h
  · rename_i hd; obtain rfl := Option.some.inj h; exact of_decide_eq_true hd
  · cases h
theorem twoP_depth {a b t : T} (h : twoP a b = some t) : t.depth ≤ 4 := by
  unfold twoP at h; split at h
  · rename_i hd; obtain rfl := Option.some.inj h; exact of_decide_eq_true hd
  · cases h
end Go.Proofs.Grad
