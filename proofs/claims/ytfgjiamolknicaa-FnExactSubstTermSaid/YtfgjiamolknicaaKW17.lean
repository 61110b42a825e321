/- Texts of the proof, one behind another. -/
import Derived.Laws.BitsLemmas
import Derived.Test.YtfgjiamolknicaaKW9
import Derived.Test.YtfgjiamolknicaaKW12
import Derived.Test.YtfgjiamolknicaaKW14
import Derived.Test.YtfgjiamolknicaaKW15
import Derived.Test.YtfgjiamolknicaaKW16
set_option linter.unusedSimpArgs false
set_option linter.unusedVariables false
/- Free names of terms, in the program. On shadows. -/
namespace Go.Proofs.Sh
open Go.Proofs.Grad
/-- the letters of a set, as an array of 26 marks -/
def setR (p : UInt8 → Bool) : List C := letters.map fun x => .sc (.bool (p x))
@[go_sem] theorem setR_length (p : UInt8 → Bool) : (setR p).length = 26 := rfl
@[go_sem] theorem setR_treeL (p : UInt8 → Bool) : treeL (setR p) = true := by rfl
@[go_sem] theorem setR_take (p : UInt8 → Bool) : (setR p).take 26 = setR p := rfl
theorem setR_get (p : UInt8 → Bool) (k : Nat) (h : k < 26) : (setR p)[k]? = some (.sc (.bool (p (UInt8.ofNat (97 + k))))) := by
  rw [setR, List.getElem?_map, letters_get k h]; rfl
theorem splice_one (r : List C) (j : Nat) (c : C) (h : j < r.length) : splice r j [c] = r.set j c := by
  rw [splice, List.set_eq_take_append_cons_drop, if_pos h]; rfl
theorem setR_put (p : UInt8 → Bool) (y : UInt8) (hy : nmB y = true) : splice (setR p) (y.toNat - 97) [.sc (.bool true)] = setR (fun x => p x || x == y) := by
  simp only [nmB, Bool.and_eq_true, decide_eq_true_eq] at hy
  rw [splice_one _ _ _ (by rw [setR_length]; omega)]
  refine List.ext_getElem? fun k => ?_
  by_cases hk : k < 26
  · rw [setR_get _ k hk]
    by_cases e : y.toNat - 97 = k
    · subst e
      rw [List.getElem?_set_self (by rw [setR_length]; omega)]
      have : UInt8.ofNat (97 + (y.toNat - 97)) = y := UInt8.toNat_inj.1 (by simp only [UInt8.toNat_ofNat']; omega)
      rw [this]; simp
    · rw [List.getElem?_set_ne e, setR_get _ k hk]
      have : (UInt8.ofNat (97 + k) == y) = false := by
        simp only [beq_eq_false_iff_ne]
        intro h
        have := congrArg UInt8.toNat h
        simp only [UInt8.toNat_ofNat'] at this
        omega
      rw [this, Bool.or_false]
  · rw [List.getElem?_eq_none (by rw [List.length_set, setR_length]; omega), List.getElem?_eq_none (by rw [setR_length]; omega)]
end Go.Proofs.Sh
namespace Go.Proofs.Ytfgjiamolknicaa
open Go.RowKit Go.Proofs.Sh Go.Proofs.Grad
set_option maxRecDepth 100000
set_option maxHeartbeats 8000000
/-- what free does -/
def FreeC (e : E) : Prop := e.wf = true → ∀ (l : List UInt8) (p : UInt8 → Bool), l.length + e.depth < 1000000 → ACl Try.prog 132 [.agg (teC e.tm), .one (.sc (.string (bsOf l))), .one (.ptr 26 0 0 0)] [⟨26, 113, .mut, [setR p]⟩] (fun r H' => r = .tup [] ∧ H' = [⟨26, 113, .mut, [setR (fun x => p x || (e.fr x && !l.contains x))]⟩])
theorem iFree (e : E) : FreeC e := by
  induction e with
  | var y =>
    intro hw l p hd
    have hc := iContains l y
    simp only [E.wf] at hw
    have hput := setR_put p y hw
    simp only [nmB, Bool.and_eq_true, decide_eq_true_eq] at hw
    have hsub : IntKind.u8.wrap ((y.toNat : Int) - 97) = ((y.toNat - 97 : Nat) : Int) := by rw [wraps_u8 _ (by omega) (by omega)]; omega
    have d1 : decide (((y.toNat - 97 : Nat) : Int) < 26) = true := by simp; omega
    have d2 : decide (y.toNat - 97 ≤ 25) = true := by simp; omega
    have hsl := setR_length p
    have hnm : (nm y)[0]? = some y := rfl
    cases hcy : l.contains y
    · rw [hcy] at hc
      have e0 : (fun x => p x || ((E.var y).fr x && !l.contains x)) = (fun x => p x || x == y) := by
        funext x
        simp only [E.fr]
        by_cases e1 : y = x
        · subst e1; rw [hcy]; simp
        · have : (x == y) = false := by simp; exact fun h => e1 h.symm
          simp [e1, this]
      rw [e0]
      simp only [E.tm, nd]
      refine acl_in Try.func132 rfl isfn_132 (Nat.le_of_ble_eq_true rfl) (fun R hR => ?_); rw [Try.results132] at hR; refine wg_run ?_; (simp only [Try.f132, go_sem])
      repeat' (first | (first | (simp only [go_sem, hsub, d1, d2, hsl, hnm, hput]) | (((first | apply sp1 | apply sp2 | apply sp3 | apply sp4 | apply sp5 | apply sp6 | apply sp7) <;> intro hb) <;> (simp only [go_sem, hb, hsub, d1, d2, hsl, hnm, hput])) | ((first | apply wm_done | apply wt_done | apply wg_run | refine fk ?_ ?_) <;> (simp only [go_sem, hsub, d1, d2, hsl, hnm, hput]))) | (first | refine cdq ?_ (hc := hc) | refine cmq ?_ (hc := hc) | refine ctq ?_ (hc := hc)); (simp only [go_sem]) | (first | (refine wl_next (wg_run ?_); (simp only [go_sem])) | refine wd_rounds 6 ?_) | ((first | refine mxq6 [0] ?_ | refine mxq5 [0] ?_ | refine mxq4 [0] ?_ | refine mxq3 [0] ?_ | refine mxq2 [0] ?_ | refine mxq1 [0] ?_ | refine mxq0 [0] ?_ | fail); (simp only [go_sem])) | fail)
      exact hR _ (rat [] (hK := ⟨rfl, rfl⟩))
    · rw [hcy] at hc
      have e0 : (fun x => p x || ((E.var y).fr x && !l.contains x)) = p := by
        funext x
        simp only [E.fr]
        by_cases e1 : y = x
        · subst e1; rw [hcy]; simp
        · simp [e1]
      rw [e0]
      simp only [E.tm, nd]
      refine acl_in Try.func132 rfl isfn_132 (Nat.le_of_ble_eq_true rfl) (fun R hR => ?_); rw [Try.results132] at hR; refine wg_run ?_; (simp only [Try.f132, go_sem])
      repeat' (first | (first | (simp only [go_sem, hsub, d1, d2, hsl, hnm, hput]) | (((first | apply sp1 | apply sp2 | apply sp3 | apply sp4 | apply sp5 | apply sp6 | apply sp7) <;> intro hb) <;> (simp only [go_sem, hb, hsub, d1, d2, hsl, hnm, hput])) | ((first | apply wm_done | apply wt_done | apply wg_run | refine fk ?_ ?_) <;> (simp only [go_sem, hsub, d1, d2, hsl, hnm, hput]))) | (first | refine cdq ?_ (hc := hc) | refine cmq ?_ (hc := hc) | refine ctq ?_ (hc := hc)); (simp only [go_sem]) | (first | (refine wl_next (wg_run ?_); (simp only [go_sem])) | refine wd_rounds 6 ?_) | ((first | refine mxq6 [0] ?_ | refine mxq5 [0] ?_ | refine mxq4 [0] ?_ | refine mxq3 [0] ?_ | refine mxq2 [0] ?_ | refine mxq1 [0] ?_ | refine mxq0 [0] ?_ | fail); (simp only [go_sem])))
      exact hR _ (rat [] (hK := ⟨rfl, rfl⟩))
  | num n =>
    intro hw l p hd
    have e0 : (fun x => p x || ((E.num n).fr x && !l.contains x)) = p := by funext x; simp [E.fr]
    rw [e0]
    simp only [E.tm, nd]
    refine acl_in Try.func132 rfl isfn_132 (Nat.le_of_ble_eq_true rfl) (fun R hR => ?_); rw [Try.results132] at hR; refine wg_run ?_; (simp only [Try.f132, go_sem])
    repeat' (first | (first | (((first | apply sp1 | apply sp2 | apply sp3 | apply sp4 | apply sp5 | apply sp6 | apply sp7) <;> intro hb) <;> (simp only [go_sem, hb])) | ((first | apply wm_done | apply wt_done | apply wg_run | refine fk ?_ ?_) <;> (simp only [go_sem]))) | (first | (refine wl_next (wg_run ?_); (simp only [go_sem])) | refine wd_rounds 6 ?_) | ((first | refine mxq6 [0] ?_ | refine mxq5 [0] ?_ | refine mxq4 [0] ?_ | refine mxq3 [0] ?_ | refine mxq2 [0] ?_ | refine mxq1 [0] ?_ | refine mxq0 [0] ?_ | fail); (simp only [go_sem])))
    exact hR _ (rat [] (hK := ⟨rfl, rfl⟩))
  | tru =>
    intro hw l p hd
    have e0 : (fun x => p x || ((E.tru).fr x && !l.contains x)) = p := by funext x; simp [E.fr]
    rw [e0]
    simp only [E.tm, nd]
    refine acl_in Try.func132 rfl isfn_132 (Nat.le_of_ble_eq_true rfl) (fun R hR => ?_); rw [Try.results132] at hR; refine wg_run ?_; (simp only [Try.f132, go_sem])
    repeat' (first | (first | (((first | apply sp1 | apply sp2 | apply sp3 | apply sp4 | apply sp5 | apply sp6 | apply sp7) <;> intro hb) <;> (simp only [go_sem, hb])) | ((first | apply wm_done | apply wt_done | apply wg_run | refine fk ?_ ?_) <;> (simp only [go_sem]))) | (first | (refine wl_next (wg_run ?_); (simp only [go_sem])) | refine wd_rounds 6 ?_) | ((first | refine mxq6 [0] ?_ | refine mxq5 [0] ?_ | refine mxq4 [0] ?_ | refine mxq3 [0] ?_ | refine mxq2 [0] ?_ | refine mxq1 [0] ?_ | refine mxq0 [0] ?_ | fail); (simp only [go_sem])))
    exact hR _ (rat [] (hK := ⟨rfl, rfl⟩))
  | fls =>
    intro hw l p hd
    have e0 : (fun x => p x || ((E.fls).fr x && !l.contains x)) = p := by funext x; simp [E.fr]
    rw [e0]
    simp only [E.tm, nd]
    refine acl_in Try.func132 rfl isfn_132 (Nat.le_of_ble_eq_true rfl) (fun R hR => ?_); rw [Try.results132] at hR; refine wg_run ?_; (simp only [Try.f132, go_sem])
    repeat' (first | (first | (((first | apply sp1 | apply sp2 | apply sp3 | apply sp4 | apply sp5 | apply sp6 | apply sp7) <;> intro hb) <;> (simp only [go_sem, hb])) | ((first | apply wm_done | apply wt_done | apply wg_run | refine fk ?_ ?_) <;> (simp only [go_sem]))) | (first | (refine wl_next (wg_run ?_); (simp only [go_sem])) | refine wd_rounds 6 ?_) | ((first | refine mxq6 [0] ?_ | refine mxq5 [0] ?_ | refine mxq4 [0] ?_ | refine mxq3 [0] ?_ | refine mxq2 [0] ?_ | refine mxq1 [0] ?_ | refine mxq0 [0] ?_ | fail); (simp only [go_sem])))
    exact hR _ (rat [] (hK := ⟨rfl, rfl⟩))
  | lam y t a ih =>
    intro hw l p hd
    simp only [E.wf, Bool.and_eq_true] at hw
    simp only [E.depth] at hd
    have h1 := ih hw.2.2 (l ++ [y]) p (by simp; omega)
    have hz : addOk (bsOf l) (nm y) = true := addOk_of (by rw [bsOf_size, nm_size]; omega)
    have hap : bsOf l ++ nm y = bsOf (l ++ [y]) := bsOf_append l [y]
    have e0 : (fun x => p x || ((E.lam y t a).fr x && !l.contains x)) = (fun x => p x || (a.fr x && !(l ++ [y]).contains x)) := by
      funext x
      simp only [E.fr, List.contains_append, List.contains_cons, List.contains_nil, Bool.or_false]
      by_cases e1 : y = x
      · subst e1; simp
      · have e2 : (x == y) = false := by simp; exact fun h => e1 h.symm
        have e3 : (y == x) = false := by simpa using e1
        rw [e2, e3]; simp
    rw [e0]
    simp only [E.tm, nd]
    generalize a.tm = t1 at *
    refine acl_in Try.func132 rfl isfn_132 (Nat.le_of_ble_eq_true rfl) (fun R hR => ?_); rw [Try.results132] at hR; refine wg_run ?_; (simp only [Try.f132, go_sem])
    repeat' (first | (first | (simp only [go_sem, hz, hap]) | (((first | apply sp1 | apply sp2 | apply sp3 | apply sp4 | apply sp5 | apply sp6 | apply sp7) <;> intro hb) <;> (simp only [go_sem, hb, hz, hap])) | ((first | apply wm_done | apply wt_done | apply wg_run | refine fk ?_ ?_) <;> (simp only [go_sem, hz, hap]))) | (first | refine kdq [0] ?_ (hc := h1) | refine kmq [0] ?_ (hc := h1) | refine ktq [0] ?_ (hc := h1)); rintro _ _ ⟨rfl, rfl⟩; (simp only [go_sem]) | (first | (refine wl_next (wg_run ?_); (simp only [go_sem])) | refine wd_rounds 6 ?_) | ((first | refine mxq6 [0] ?_ | refine mxq5 [0] ?_ | refine mxq4 [0] ?_ | refine mxq3 [0] ?_ | refine mxq2 [0] ?_ | refine mxq1 [0] ?_ | refine mxq0 [0] ?_ | fail); (simp only [go_sem])))
    exact hR _ (rat [] (hK := ⟨rfl, rfl⟩))
  | app a b iha ihb =>
    intro hw l p hd
    simp only [E.wf, Bool.and_eq_true] at hw
    simp only [E.depth] at hd
    have h1 := iha hw.1 l (p) (by omega)
    have h2 := ihb hw.2 l (fun x => p x || (a.fr x && !l.contains x)) (by omega)
    have e0 : (fun x => p x || ((E.app a b).fr x && !l.contains x)) = (fun x => (fun x => p x || (a.fr x && !l.contains x)) x || (b.fr x && !l.contains x)) := by
      funext x
      simp only [E.fr]
      try (cases p x <;> cases l.contains x <;> simp [Bool.or_assoc])
    rw [e0]
    simp only [E.tm, nd]
    generalize a.tm = a1 at *
    generalize b.tm = b1 at *
    clear e0 iha ihb
    refine acl_in Try.func132 rfl isfn_132 (Nat.le_of_ble_eq_true rfl) (fun R hR => ?_); rw [Try.results132] at hR; refine wg_run ?_; (simp only [Try.f132, go_sem])
    repeat' (first | (first | (((first | apply sp1 | apply sp2 | apply sp3 | apply sp4 | apply sp5 | apply sp6 | apply sp7) <;> intro hb) <;> (simp only [go_sem, hb])) | ((first | apply wm_done | apply wt_done | apply wg_run | refine fk ?_ ?_) <;> (simp only [go_sem]))) | (first | refine kdq [0] ?_ (hc := h1) | refine kmq [0] ?_ (hc := h1) | refine ktq [0] ?_ (hc := h1)); rintro _ _ ⟨rfl, rfl⟩; (simp only [go_sem]) | (first | refine kdq [0] ?_ (hc := h2) | refine kmq [0] ?_ (hc := h2) | refine ktq [0] ?_ (hc := h2)); rintro _ _ ⟨rfl, rfl⟩; (simp only [go_sem]) | (first | (refine wl_next (wg_run ?_); (simp only [go_sem])) | refine wd_rounds 6 ?_) | ((first | refine mxq6 [0] ?_ | refine mxq5 [0] ?_ | refine mxq4 [0] ?_ | refine mxq3 [0] ?_ | refine mxq2 [0] ?_ | refine mxq1 [0] ?_ | refine mxq0 [0] ?_ | fail); (simp only [go_sem])))
    exact hR _ (rat [] (hK := ⟨rfl, rfl⟩))
  | add a b iha ihb =>
    intro hw l p hd
    simp only [E.wf, Bool.and_eq_true] at hw
    simp only [E.depth] at hd
    have h1 := iha hw.1 l (p) (by omega)
    have h2 := ihb hw.2 l (fun x => p x || (a.fr x && !l.contains x)) (by omega)
    have e0 : (fun x => p x || ((E.add a b).fr x && !l.contains x)) = (fun x => (fun x => p x || (a.fr x && !l.contains x)) x || (b.fr x && !l.contains x)) := by
      funext x
      simp only [E.fr]
      try (cases p x <;> cases l.contains x <;> simp [Bool.or_assoc])
    rw [e0]
    simp only [E.tm, nd]
    generalize a.tm = a1 at *
    generalize b.tm = b1 at *
    clear e0 iha ihb
    refine acl_in Try.func132 rfl isfn_132 (Nat.le_of_ble_eq_true rfl) (fun R hR => ?_); rw [Try.results132] at hR; refine wg_run ?_; (simp only [Try.f132, go_sem])
    repeat' (first | (first | (((first | apply sp1 | apply sp2 | apply sp3 | apply sp4 | apply sp5 | apply sp6 | apply sp7) <;> intro hb) <;> (simp only [go_sem, hb])) | ((first | apply wm_done | apply wt_done | apply wg_run | refine fk ?_ ?_) <;> (simp only [go_sem]))) | (first | refine kdq [0] ?_ (hc := h1) | refine kmq [0] ?_ (hc := h1) | refine ktq [0] ?_ (hc := h1)); rintro _ _ ⟨rfl, rfl⟩; (simp only [go_sem]) | (first | refine kdq [0] ?_ (hc := h2) | refine kmq [0] ?_ (hc := h2) | refine ktq [0] ?_ (hc := h2)); rintro _ _ ⟨rfl, rfl⟩; (simp only [go_sem]) | (first | (refine wl_next (wg_run ?_); (simp only [go_sem])) | refine wd_rounds 6 ?_) | ((first | refine mxq6 [0] ?_ | refine mxq5 [0] ?_ | refine mxq4 [0] ?_ | refine mxq3 [0] ?_ | refine mxq2 [0] ?_ | refine mxq1 [0] ?_ | refine mxq0 [0] ?_ | fail); (simp only [go_sem])))
    exact hR _ (rat [] (hK := ⟨rfl, rfl⟩))
  | less a b iha ihb =>
    intro hw l p hd
    simp only [E.wf, Bool.and_eq_true] at hw
    simp only [E.depth] at hd
    have h1 := iha hw.1 l (p) (by omega)
    have h2 := ihb hw.2 l (fun x => p x || (a.fr x && !l.contains x)) (by omega)
    have e0 : (fun x => p x || ((E.less a b).fr x && !l.contains x)) = (fun x => (fun x => p x || (a.fr x && !l.contains x)) x || (b.fr x && !l.contains x)) := by
      funext x
      simp only [E.fr]
      try (cases p x <;> cases l.contains x <;> simp [Bool.or_assoc])
    rw [e0]
    simp only [E.tm, nd]
    generalize a.tm = a1 at *
    generalize b.tm = b1 at *
    clear e0 iha ihb
    refine acl_in Try.func132 rfl isfn_132 (Nat.le_of_ble_eq_true rfl) (fun R hR => ?_); rw [Try.results132] at hR; refine wg_run ?_; (simp only [Try.f132, go_sem])
    repeat' (first | (first | (((first | apply sp1 | apply sp2 | apply sp3 | apply sp4 | apply sp5 | apply sp6 | apply sp7) <;> intro hb) <;> (simp only [go_sem, hb])) | ((first | apply wm_done | apply wt_done | apply wg_run | refine fk ?_ ?_) <;> (simp only [go_sem]))) | (first | refine kdq [0] ?_ (hc := h1) | refine kmq [0] ?_ (hc := h1) | refine ktq [0] ?_ (hc := h1)); rintro _ _ ⟨rfl, rfl⟩; (simp only [go_sem]) | (first | refine kdq [0] ?_ (hc := h2) | refine kmq [0] ?_ (hc := h2) | refine ktq [0] ?_ (hc := h2)); rintro _ _ ⟨rfl, rfl⟩; (simp only [go_sem]) | (first | (refine wl_next (wg_run ?_); (simp only [go_sem])) | refine wd_rounds 6 ?_) | ((first | refine mxq6 [0] ?_ | refine mxq5 [0] ?_ | refine mxq4 [0] ?_ | refine mxq3 [0] ?_ | refine mxq2 [0] ?_ | refine mxq1 [0] ?_ | refine mxq0 [0] ?_ | fail); (simp only [go_sem])))
    exact hR _ (rat [] (hK := ⟨rfl, rfl⟩))
  | pair a b iha ihb =>
    intro hw l p hd
    simp only [E.wf, Bool.and_eq_true] at hw
    simp only [E.depth] at hd
    have h1 := iha hw.1 l (p) (by omega)
    have h2 := ihb hw.2 l (fun x => p x || (a.fr x && !l.contains x)) (by omega)
    have e0 : (fun x => p x || ((E.pair a b).fr x && !l.contains x)) = (fun x => (fun x => p x || (a.fr x && !l.contains x)) x || (b.fr x && !l.contains x)) := by
      funext x
      simp only [E.fr]
      try (cases p x <;> cases l.contains x <;> simp [Bool.or_assoc])
    rw [e0]
    simp only [E.tm, nd]
    generalize a.tm = a1 at *
    generalize b.tm = b1 at *
    clear e0 iha ihb
    refine acl_in Try.func132 rfl isfn_132 (Nat.le_of_ble_eq_true rfl) (fun R hR => ?_); rw [Try.results132] at hR; refine wg_run ?_; (simp only [Try.f132, go_sem])
    repeat' (first | (first | (((first | apply sp1 | apply sp2 | apply sp3 | apply sp4 | apply sp5 | apply sp6 | apply sp7) <;> intro hb) <;> (simp only [go_sem, hb])) | ((first | apply wm_done | apply wt_done | apply wg_run | refine fk ?_ ?_) <;> (simp only [go_sem]))) | (first | refine kdq [0] ?_ (hc := h1) | refine kmq [0] ?_ (hc := h1) | refine ktq [0] ?_ (hc := h1)); rintro _ _ ⟨rfl, rfl⟩; (simp only [go_sem]) | (first | refine kdq [0] ?_ (hc := h2) | refine kmq [0] ?_ (hc := h2) | refine ktq [0] ?_ (hc := h2)); rintro _ _ ⟨rfl, rfl⟩; (simp only [go_sem]) | (first | (refine wl_next (wg_run ?_); (simp only [go_sem])) | refine wd_rounds 6 ?_) | ((first | refine mxq6 [0] ?_ | refine mxq5 [0] ?_ | refine mxq4 [0] ?_ | refine mxq3 [0] ?_ | refine mxq2 [0] ?_ | refine mxq1 [0] ?_ | refine mxq0 [0] ?_ | fail); (simp only [go_sem])))
    exact hR _ (rat [] (hK := ⟨rfl, rfl⟩))
  | ite a b c iha ihb ihc =>
    intro hw l p hd
    simp only [E.wf, Bool.and_eq_true] at hw
    simp only [E.depth] at hd
    have h1 := iha hw.1 l (p) (by omega)
    have h2 := ihb hw.2.1 l (fun x => p x || (a.fr x && !l.contains x)) (by omega)
    have h3 := ihc hw.2.2 l (fun x => (fun x => p x || (a.fr x && !l.contains x)) x || (b.fr x && !l.contains x)) (by omega)
    have e0 : (fun x => p x || ((E.ite a b c).fr x && !l.contains x)) = (fun x => (fun x => (fun x => p x || (a.fr x && !l.contains x)) x || (b.fr x && !l.contains x)) x || (c.fr x && !l.contains x)) := by
      funext x
      simp only [E.fr]
      try (cases p x <;> cases l.contains x <;> simp [Bool.or_assoc])
    rw [e0]
    simp only [E.tm, nd]
    generalize a.tm = a1 at *
    generalize b.tm = b1 at *
    generalize c.tm = c1 at *
    clear e0 iha ihb ihc
    refine acl_in Try.func132 rfl isfn_132 (Nat.le_of_ble_eq_true rfl) (fun R hR => ?_); rw [Try.results132] at hR; refine wg_run ?_; (simp only [Try.f132, go_sem])
    repeat' (first | (first | (((first | apply sp1 | apply sp2 | apply sp3 | apply sp4 | apply sp5 | apply sp6 | apply sp7) <;> intro hb) <;> (simp only [go_sem, hb])) | ((first | apply wm_done | apply wt_done | apply wg_run | refine fk ?_ ?_) <;> (simp only [go_sem]))) | (first | refine kdq [0] ?_ (hc := h1) | refine kmq [0] ?_ (hc := h1) | refine ktq [0] ?_ (hc := h1)); rintro _ _ ⟨rfl, rfl⟩; (simp only [go_sem]) | (first | refine kdq [0] ?_ (hc := h2) | refine kmq [0] ?_ (hc := h2) | refine ktq [0] ?_ (hc := h2)); rintro _ _ ⟨rfl, rfl⟩; (simp only [go_sem]) | (first | refine kdq [0] ?_ (hc := h3) | refine kmq [0] ?_ (hc := h3) | refine ktq [0] ?_ (hc := h3)); rintro _ _ ⟨rfl, rfl⟩; (simp only [go_sem]) | (first | (refine wl_next (wg_run ?_); (simp only [go_sem])) | refine wd_rounds 6 ?_) | ((first | refine mxq6 [0] ?_ | refine mxq5 [0] ?_ | refine mxq4 [0] ?_ | refine mxq3 [0] ?_ | refine mxq2 [0] ?_ | refine mxq1 [0] ?_ | refine mxq0 [0] ?_ | fail); (simp only [go_sem])))
    exact hR _ (rat [] (hK := ⟨rfl, rfl⟩))
  | fst a iha =>
    intro hw l p hd
    simp only [E.wf] at hw
    simp only [E.depth] at hd
    have h1 := iha hw l (p) (by omega)
    have e0 : (fun x => p x || ((E.fst a).fr x && !l.contains x)) = (fun x => p x || (a.fr x && !l.contains x)) := by
      funext x
      simp only [E.fr]
      try (cases p x <;> cases l.contains x <;> simp [Bool.or_assoc])
    rw [e0]
    simp only [E.tm, nd]
    generalize a.tm = a1 at *
    clear e0 iha
    refine acl_in Try.func132 rfl isfn_132 (Nat.le_of_ble_eq_true rfl) (fun R hR => ?_); rw [Try.results132] at hR; refine wg_run ?_; (simp only [Try.f132, go_sem])
    repeat' (first | (first | (((first | apply sp1 | apply sp2 | apply sp3 | apply sp4 | apply sp5 | apply sp6 | apply sp7) <;> intro hb) <;> (simp only [go_sem, hb])) | ((first | apply wm_done | apply wt_done | apply wg_run | refine fk ?_ ?_) <;> (simp only [go_sem]))) | (first | refine kdq [0] ?_ (hc := h1) | refine kmq [0] ?_ (hc := h1) | refine ktq [0] ?_ (hc := h1)); rintro _ _ ⟨rfl, rfl⟩; (simp only [go_sem]) | (first | (refine wl_next (wg_run ?_); (simp only [go_sem])) | refine wd_rounds 6 ?_) | ((first | refine mxq6 [0] ?_ | refine mxq5 [0] ?_ | refine mxq4 [0] ?_ | refine mxq3 [0] ?_ | refine mxq2 [0] ?_ | refine mxq1 [0] ?_ | refine mxq0 [0] ?_ | fail); (simp only [go_sem])))
    exact hR _ (rat [] (hK := ⟨rfl, rfl⟩))
  | snd a iha =>
    intro hw l p hd
    simp only [E.wf] at hw
    simp only [E.depth] at hd
    have h1 := iha hw l (p) (by omega)
    have e0 : (fun x => p x || ((E.snd a).fr x && !l.contains x)) = (fun x => p x || (a.fr x && !l.contains x)) := by
      funext x
      simp only [E.fr]
      try (cases p x <;> cases l.contains x <;> simp [Bool.or_assoc])
    rw [e0]
    simp only [E.tm, nd]
    generalize a.tm = a1 at *
    clear e0 iha
    refine acl_in Try.func132 rfl isfn_132 (Nat.le_of_ble_eq_true rfl) (fun R hR => ?_); rw [Try.results132] at hR; refine wg_run ?_; (simp only [Try.f132, go_sem])
    repeat' (first | (first | (((first | apply sp1 | apply sp2 | apply sp3 | apply sp4 | apply sp5 | apply sp6 | apply sp7) <;> intro hb) <;> (simp only [go_sem, hb])) | ((first | apply wm_done | apply wt_done | apply wg_run | refine fk ?_ ?_) <;> (simp only [go_sem]))) | (first | refine kdq [0] ?_ (hc := h1) | refine kmq [0] ?_ (hc := h1) | refine ktq [0] ?_ (hc := h1)); rintro _ _ ⟨rfl, rfl⟩; (simp only [go_sem]) | (first | (refine wl_next (wg_run ?_); (simp only [go_sem])) | refine wd_rounds 6 ?_) | ((first | refine mxq6 [0] ?_ | refine mxq5 [0] ?_ | refine mxq4 [0] ?_ | refine mxq3 [0] ?_ | refine mxq2 [0] ?_ | refine mxq1 [0] ?_ | refine mxq0 [0] ?_ | fail); (simp only [go_sem])))
    exact hR _ (rat [] (hK := ⟨rfl, rfl⟩))
  | asc t a iha =>
    intro hw l p hd
    simp only [E.wf, Bool.and_eq_true] at hw
    simp only [E.depth] at hd
    have h1 := iha hw.2 l (p) (by omega)
    have e0 : (fun x => p x || ((E.asc t a).fr x && !l.contains x)) = (fun x => p x || (a.fr x && !l.contains x)) := by
      funext x
      simp only [E.fr]
      try (cases p x <;> cases l.contains x <;> simp [Bool.or_assoc])
    rw [e0]
    simp only [E.tm, nd]
    generalize a.tm = a1 at *
    clear e0 iha
    refine acl_in Try.func132 rfl isfn_132 (Nat.le_of_ble_eq_true rfl) (fun R hR => ?_); rw [Try.results132] at hR; refine wg_run ?_; (simp only [Try.f132, go_sem])
    repeat' (first | (first | (((first | apply sp1 | apply sp2 | apply sp3 | apply sp4 | apply sp5 | apply sp6 | apply sp7) <;> intro hb) <;> (simp only [go_sem, hb])) | ((first | apply wm_done | apply wt_done | apply wg_run | refine fk ?_ ?_) <;> (simp only [go_sem]))) | (first | refine kdq [0] ?_ (hc := h1) | refine kmq [0] ?_ (hc := h1) | refine ktq [0] ?_ (hc := h1)); rintro _ _ ⟨rfl, rfl⟩; (simp only [go_sem]) | (first | (refine wl_next (wg_run ?_); (simp only [go_sem])) | refine wd_rounds 6 ?_) | ((first | refine mxq6 [0] ?_ | refine mxq5 [0] ?_ | refine mxq4 [0] ?_ | refine mxq3 [0] ?_ | refine mxq2 [0] ?_ | refine mxq1 [0] ?_ | refine mxq0 [0] ?_ | fail); (simp only [go_sem])))
    exact hR _ (rat [] (hK := ⟨rfl, rfl⟩))
  | cast s t k a iha =>
    intro hw l p hd
    simp only [E.wf, Bool.and_eq_true] at hw
    simp only [E.depth] at hd
    have h1 := iha hw.2.2.2 l (p) (by omega)
    have e0 : (fun x => p x || ((E.cast s t k a).fr x && !l.contains x)) = (fun x => p x || (a.fr x && !l.contains x)) := by
      funext x
      simp only [E.fr]
      try (cases p x <;> cases l.contains x <;> simp [Bool.or_assoc])
    rw [e0]
    simp only [E.tm, nd]
    generalize a.tm = a1 at *
    clear e0 iha
    refine acl_in Try.func132 rfl isfn_132 (Nat.le_of_ble_eq_true rfl) (fun R hR => ?_); rw [Try.results132] at hR; refine wg_run ?_; (simp only [Try.f132, go_sem])
    repeat' (first | (first | (((first | apply sp1 | apply sp2 | apply sp3 | apply sp4 | apply sp5 | apply sp6 | apply sp7) <;> intro hb) <;> (simp only [go_sem, hb])) | ((first | apply wm_done | apply wt_done | apply wg_run | refine fk ?_ ?_) <;> (simp only [go_sem]))) | (first | refine kdq [0] ?_ (hc := h1) | refine kmq [0] ?_ (hc := h1) | refine ktq [0] ?_ (hc := h1)); rintro _ _ ⟨rfl, rfl⟩; (simp only [go_sem]) | (first | (refine wl_next (wg_run ?_); (simp only [go_sem])) | refine wd_rounds 6 ?_) | ((first | refine mxq6 [0] ?_ | refine mxq5 [0] ?_ | refine mxq4 [0] ?_ | refine mxq3 [0] ?_ | refine mxq2 [0] ?_ | refine mxq1 [0] ?_ | refine mxq0 [0] ?_ | fail); (simp only [go_sem])))
    exact hR _ (rat [] (hK := ⟨rfl, rfl⟩))
theorem iFreeNames0 (e : E) (hw : e.wf = true) (hd : e.depth < 1000) : AFn Try.prog 64 [.agg (teC e.tm)] (.one (.sc (.string (bsOf (names (fun x => e.fr x)))))) := by
  have hf := iFree e hw [] (fun _ => false) (by simp; omega)
  rw [show setR (fun _ => false) = [.sc (.bool false), .sc (.bool false), .sc (.bool false), .sc (.bool false), .sc (.bool false), .sc (.bool false), .sc (.bool false), .sc (.bool false), .sc (.bool false), .sc (.bool false), .sc (.bool false), .sc (.bool false), .sc (.bool false), .sc (.bool false), .sc (.bool false), .sc (.bool false), .sc (.bool false), .sc (.bool false), .sc (.bool false), .sc (.bool false), .sc (.bool false), .sc (.bool false), .sc (.bool false), .sc (.bool false), .sc (.bool false), .sc (.bool false)] from rfl, show bsOf [] = ⟨#[]⟩ from rfl] at hf
  have e0 : (fun x => false || (e.fr x && !([] : List UInt8).contains x)) = (fun x => e.fr x) := by funext x; simp
  rw [e0] at hf
  clear e0
  generalize (fun x => e.fr x) = p at *
  generalize e.tm = t at *
  have hsl := setR_length p
  refine fn_in ?_; refine acl_in Try.func64 rfl isfn_64 (Nat.le_of_ble_eq_true rfl) (fun R hR => ?_); rw [Try.results64] at hR; refine wg_run ?_; (simp only [Try.f64, go_sem])
  repeat' (first | (first | (((first | apply sp1 | apply sp2 | apply sp3 | apply sp4 | apply sp5 | apply sp6 | apply sp7) <;> intro hb) <;> (simp only [go_sem, hb])) | ((first | apply wm_done | apply wt_done | apply wg_run | refine fk ?_ ?_) <;> (simp only [go_sem]))) | (first | refine kdq [1] ?_ (hc := hf) | refine kmq [1] ?_ (hc := hf) | refine ktq [1] ?_ (hc := hf)); rintro _ _ ⟨rfl, rfl⟩; (simp only [go_sem]) | fail)
  refine wd_for (σ := Nat) [4, 9, 10] (fun k => [.one (.sc (.string (bsOf (namesK p k)))), .agg (setR p), .one (.sc (.int .i64 (k : Nat)))]) (fun _ => []) (fun k => k ≤ 26) (fun k => 26 - k) 0 (Nat.zero_le _) (hat [] (hI := ⟨rfl, rfl⟩)) ?_
  rintro k hk G hG
  refine wg_run ?_
  by_cases hk1 : k < 26
  · have d1 : decide ((k : Int) < 26) = true := by simp; omega
    have hw1 := wrap_succ hk1 (by omega)
    have hget := setR_get p k hk1
    have hs1 : IntKind.i64.wrap (97 + (k : Int)) = ((97 + k : Nat) : Int) := by rw [IntWalk.i64_in _ (by omega)]; omega
    have hu1 : IntKind.u8.wrap ((97 + k : Nat) : Int) = ((97 + k : Nat) : Int) := wraps_u8 _ (by omega) (by omega)
    have hby : bytesOf [((97 + k : Nat) : Int)] = nm (UInt8.ofNat (97 + k)) := rfl
    have hlen := namesK_len p k
    have hz : addOk (bsOf (namesK p k)) (nm (UInt8.ofNat (97 + k))) = true := addOk_of (by rw [bsOf_size, nm_size]; omega)
    have hap : bsOf (namesK p k) ++ nm (UInt8.ofNat (97 + k)) = bsOf (namesK p k ++ [UInt8.ofNat (97 + k)]) := bsOf_append _ [_]
    have hsu := namesK_succ p k hk1
    have hdk : decide (k < 26) = true := by simp; omega
    cases e1 : p (UInt8.ofNat (97 + k))
    all_goals
      rw [e1] at hget hsu
      simp only [List.append_nil] at hsu
      repeat' (first | (first | (simp only [go_sem, d1, hw1, hget, hs1, hu1, hby, hz, hap, hsl, hdk]) | (((first | apply sp1 | apply sp2 | apply sp3 | apply sp4 | apply sp5 | apply sp6 | apply sp7) <;> intro hb) <;> (simp only [go_sem, hb, d1, hw1, hget, hs1, hu1, hby, hz, hap, hsl, hdk])) | ((first | apply wm_done | apply wt_done | apply wg_run | refine fk ?_ ?_) <;> (simp only [go_sem, d1, hw1, hget, hs1, hu1, hby, hz, hap, hsl, hdk]))) | fail)
      exact hG (k + 1) _ _ (by omega) (by omega) (hat [] (hI := ⟨by rw [hsu], rfl⟩))
  · have d1 : decide ((k : Int) < 26) = false := by simp; omega
    have : k = 26 := by omega
    subst this
    clear hG
    rw [namesK_all]
    repeat' (first | (first | (simp only [go_sem, d1]) | (((first | apply sp1 | apply sp2 | apply sp3 | apply sp4 | apply sp5 | apply sp6 | apply sp7) <;> intro hb) <;> (simp only [go_sem, hb, d1])) | ((first | apply wm_done | apply wt_done | apply wg_run | refine fk ?_ ?_) <;> (simp only [go_sem, d1]))) | fail)
    (refine hR _ (rat [] (hK := ⟨rfl, rfl⟩)))
end Go.Proofs.Ytfgjiamolknicaa
/- Terms: the types that stand in a term, on shadows. -/
namespace Go.Proofs.Grad
def hasTy (k : Int) : Bool := k == 5 || k == 13
def ownTys (k : Int) (t : Ty) : List Ty := match hasTy k with | true => [t] | false => []
mutual
def Tm.types : Tm → List Ty | .mk k _ _ t _ _ l => ownTys k t ++ Tm.typess l
def Tm.typess : List Tm → List Ty | [] => [] | t :: l => t.types ++ Tm.typess l
end
theorem Tm.types_eq (t : Tm) : t.types = ownTys t.kind t.type ++ Tm.typess t.kids := by cases t; rfl
theorem ownTys_len (k : Int) (t : Ty) : (ownTys k t).length ≤ 1 := by unfold ownTys; split <;> simp
mutual
theorem Tm.types_len : ∀ t : Tm, t.types.length ≤ t.nodes
  | .mk k n m t f b l => by have := Tm.typess_len l; have := ownTys_len k t; simp only [Tm.types, Tm.nodes, List.length_append]; omega
theorem Tm.typess_len : ∀ l : List Tm, (Tm.typess l).length ≤ Tm.nodess l
  | [] => by simp [Tm.typess]
  | t :: l => by have := Tm.types_len t; have := Tm.typess_len l; simp only [Tm.typess, Tm.nodess, List.length_append]; omega
end
theorem Tm.typess_append (l m : List Tm) : Tm.typess (l ++ m) = Tm.typess l ++ Tm.typess m := by
  induction l with
  | nil => rfl
  | cons t l ih => simp [Tm.typess, ih]
theorem Tm.typess_take {l : List Tm} {k : Nat} (h : k < l.length) : Tm.typess (l.take (k + 1)) = Tm.typess (l.take k) ++ (Sh.teKid l k).types := by
  rw [Sh.tetake_kid h, Tm.typess_append]; simp [Tm.typess]
theorem Tm.typess_take_len (l : List Tm) (k : Nat) : (Tm.typess (l.take k)).length ≤ Tm.nodess l := Nat.le_trans (Tm.typess_len _) (Tm.nodess_le_take l k)
end Go.Proofs.Grad
namespace Go.Proofs.Sh
attribute [go_sem] List.getD_cons_zero List.getD_cons_succ List.getD_nil
/-- a list of rows as a slice that has grown from nil -/
def grown (s b : Nat) : List (List C) → C | [] => .sc (.slice none 0 0) | r :: l => .row s b (l.length + 1)
end Go.Proofs.Sh
namespace Go.Proofs.Ytfgjiamolknicaa
open Go.RowKit Go.Proofs.Sh Go.Proofs.Grad
set_option maxRecDepth 100000
set_option maxHeartbeats 8000000
theorem iHasType (t : Tm) : AFn Try.prog 91 [.agg (teC t)] (.one (.sc (.bool (hasTy t.kind)))) := by
  refine fn_in ?_; refine acl_in Try.func91 rfl isfn_91 (Nat.le_of_ble_eq_true rfl) (fun R hR => ?_); rw [Try.results91] at hR; refine wg_run ?_; (simp only [Try.f91, go_sem])
  repeat' (first | (((first | apply sp1 | apply sp2 | apply sp3 | apply sp4 | apply sp5 | apply sp6 | apply sp7) <;> intro hb) <;> (simp only [go_sem, hb])) | ((first | apply wm_done | apply wt_done | apply wg_run | refine fk ?_ ?_) <;> (simp only [go_sem])))
  all_goals (refine hR _ (rat [] (hK := ⟨?_, rfl⟩)))
  all_goals simp_all [hasTy]
theorem iTypes (n : Nat) (hn : n ≤ 2199023255552) : ∀ t : Tm, t.size < n → AFn Try.prog 96 [.agg (teC t)] (.one (.sl (tyR t.types))) := by
  induction n with
  | zero => intro t h; omega
  | succ n ih =>
    intro t h
    have hl := telen_lt t
    have hnl := t.nodes_le
    have hne := t.nodes_eq
    have ho := iOwnTy _ (by omega) t.type (Nat.lt_of_lt_of_le (by cases t; simp only [Tm.size, Tm.type]; omega : t.type.size < t.size) (Nat.le_of_lt_succ h))
    have hh := iHasType t
    have e0 : ownTys t.kind t.type = (match hasTy t.kind with | true => [t.type] | false => []) := rfl
    cases hty : hasTy t.kind
    all_goals
      rw [hty] at hh e0
      simp only [] at e0
      refine fn_in ?_; refine acl_in Try.func96 rfl isfn_96 (Nat.le_of_ble_eq_true rfl) (fun R hR => ?_); rw [Try.results96] at hR; refine wg_run ?_; (simp only [Try.f96, go_sem])
      repeat' (first | (first | (((first | apply sp1 | apply sp2 | apply sp3 | apply sp4 | apply sp5 | apply sp6 | apply sp7) <;> intro hb) <;> (simp only [go_sem, hb])) | ((first | apply wm_done | apply wt_done | apply wg_run | refine fk ?_ ?_) <;> (simp only [go_sem]))) | (first | refine cdq ?_ (hc := hh) | refine cmq ?_ (hc := hh) | refine ctq ?_ (hc := hh)); (simp only [go_sem]) | (first | refine cdq ?_ (hc := ho) | refine cmq ?_ (hc := ho) | refine ctq ?_ (hc := ho)); (simp only [go_sem]))
      first
        | refine wd_for [3, 15, 16, 17] (fun (x : Nat × List Ty) => [.one (match x.2 with | [] => .sc (.slice none 0 0) | a :: l => .row 2 0 (l.length + 1)), .one (.sl (teR t.kids)), .one (.sc (.int .i64 t.kids.length)), .one (.sc (.int .i64 (x.1 : Nat)))])
            (fun x => match x.2 with | [] => [] | a :: l => [⟨2, 25, .mut, tyR (a :: l)⟩])
            (fun x => x.1 ≤ t.kids.length ∧ x.2 = ownTys t.kind t.type ++ Tm.typess (t.kids.take x.1)) (fun x => t.kids.length - x.1) (0, []) ⟨Nat.zero_le _, by rw [e0]; rfl⟩ (hat [] (hI := ⟨rfl, rfl⟩)) ?_
        | refine wd_for [3, 15, 16, 17] (fun (x : Nat × List Ty) => [.one (match x.2 with | [] => .sc (.slice none 0 0) | a :: l => .row 2 0 (l.length + 1)), .one (.sl (teR t.kids)), .one (.sc (.int .i64 t.kids.length)), .one (.sc (.int .i64 (x.1 : Nat)))])
            (fun x => match x.2 with | [] => [] | a :: l => [⟨2, 25, .mut, tyR (a :: l)⟩])
            (fun x => x.1 ≤ t.kids.length ∧ x.2 = ownTys t.kind t.type ++ Tm.typess (t.kids.take x.1)) (fun x => t.kids.length - x.1) (0, [t.type]) ⟨Nat.zero_le _, by rw [e0]; rfl⟩ (hat [2] (hI := ⟨rfl, rfl⟩)) ?_
      rintro ⟨k, acc⟩ ⟨hk, hacc⟩ G hG
      simp only [] at hk hacc hG
      have hal : acc.length ≤ 1 + Tm.nodess t.kids := by
        have := ownTys_len t.kind t.type; have := Tm.typess_take_len t.kids k
        rw [hacc, List.length_append]; omega
      rcases acc with _ | ⟨a, acc⟩
      all_goals
        refine wg_run ?_
        (simp only [go_sem])
        ((first | apply sp1 | apply sp2 | apply sp3 | apply sp4 | apply sp5 | apply sp6 | apply sp7) <;> intro hb) <;> (simp only [go_sem, hb])
        · have hk1 : k < t.kids.length := by have := of_decide_eq_true hb; omega
          have hw1 := wrap_succ hk1 (by omega)
          have hc := ih (by omega) (teKid t.kids k) (by have := teKid_lt hk1; omega)
          have hkl := Tm.types_len (teKid t.kids k)
          have hkn := Tm.nodess_le_take t.kids (k + 1)
          rw [Tm.nodess_take hk1] at hkn
          have hnx : ownTys t.kind t.type ++ Tm.typess (t.kids.take (k + 1)) = ownTys t.kind t.type ++ Tm.typess (t.kids.take k) ++ (teKid t.kids k).types := by rw [Tm.typess_take hk1, List.append_assoc]
          rw [← hacc] at hnx
          cases hkt : (teKid t.kids k).types with
          | nil =>
            rw [hkt] at hc hnx
            repeat' (first | (first | (simp only [go_sem, hw1, hb]) | (((first | apply sp1 | apply sp2 | apply sp3 | apply sp4 | apply sp5 | apply sp6 | apply sp7) <;> intro hb) <;> (simp only [go_sem, hb, hw1, hb])) | ((first | apply wm_done | apply wt_done | apply wg_run | refine fk ?_ ?_) <;> (simp only [go_sem, hw1, hb]))) | (first | refine cdq ?_ (hc := hc) | refine cmq ?_ (hc := hc) | refine ctq ?_ (hc := hc)); (simp only [go_sem]))
            rw [List.append_nil] at hnx
            first
              | exact hG (k + 1, []) _ _ ⟨by omega, hnx.symm⟩ (by simp only []; omega) (hat [] (hI := ⟨rfl, rfl⟩))
              | exact hG (k + 1, a :: acc) _ _ ⟨by omega, hnx.symm⟩ (by simp only []; omega) (hat [0] (hI := ⟨rfl, rfl⟩))
          | cons b m =>
            rw [hkt] at hc hnx hkl
            simp only [List.length_cons] at hkl hal
            have hcap1 : (m.length + 1) * 32 ≤ 140737488355328 := by omega
            first
              | (have hcap2 : (acc.length + 1 + (m.length + 1)) * 32 ≤ 140737488355328 := by omega
                 repeat' (first | (first | (simp only [go_sem, hw1, hb, hcap1, hcap2]) | (((first | apply sp1 | apply sp2 | apply sp3 | apply sp4 | apply sp5 | apply sp6 | apply sp7) <;> intro hb) <;> (simp only [go_sem, hb, hw1, hb, hcap1, hcap2])) | ((first | apply wm_done | apply wt_done | apply wg_run | refine fk ?_ ?_) <;> (simp only [go_sem, hw1, hb, hcap1, hcap2]))) | (first | refine cdq ?_ (hc := hc) | refine cmq ?_ (hc := hc) | refine ctq ?_ (hc := hc)); (simp only [go_sem]))
                 refine hG (k + 1, a :: acc ++ b :: m) _ _ ⟨by omega, hnx.symm⟩ (by simp only []; omega) (hat [2] (hI := ⟨?_, ?_⟩))
                 · simp only [List.cons_append, List.length_append, List.length_cons]
                   rw [show acc.length + 1 + (m.length + 1) = acc.length + (m.length + 1) + 1 by omega]
                 · simp only [List.cons_append, tyR, tyR_append])
              | (repeat' (first | (first | (simp only [go_sem, hw1, hb, hcap1]) | (((first | apply sp1 | apply sp2 | apply sp3 | apply sp4 | apply sp5 | apply sp6 | apply sp7) <;> intro hb) <;> (simp only [go_sem, hb, hw1, hb, hcap1])) | ((first | apply wm_done | apply wt_done | apply wg_run | refine fk ?_ ?_) <;> (simp only [go_sem, hw1, hb, hcap1]))) | (first | refine cdq ?_ (hc := hc) | refine cmq ?_ (hc := hc) | refine ctq ?_ (hc := hc)); (simp only [go_sem]))
                 refine hG (k + 1, b :: m) _ _ ⟨by omega, hnx.symm⟩ (by simp only []; omega) (hat [1] (hI := ⟨rfl, rfl⟩)))
        · have hk1 : t.kids.take k = t.kids := List.take_of_length_le (by have := of_decide_eq_false hb; omega)
          rw [hk1, ← Tm.types_eq] at hacc
          (refine hR _ (rat [] (hK := ⟨?_, rfl⟩)))
          rw [← hacc]; rfl

theorem l2Types (n : Nat) (hn : n ≤ 1099511627776) : ∀ t : Tm, t.size < n → ∀ l : List Ty, l.length ≤ 1099511627776 → l.length + t.nodes ≤ 1099511627776 → ACl Try.prog 150 [.one (.row 2 0 l.length), .agg (teC t)] [⟨2, 25, .mut, tyR l⟩]
    (fun r H' => (r = .one (.row 2 0 (l ++ t.types).length) ∧ H' = [⟨2, 25, .mut, tyR (l ++ t.types)⟩]) ∨ (r = .one (.row 2 1 (l ++ t.types).length) ∧ H' = [⟨2, 25, .dead, []⟩, ⟨2, 25, .mut, tyR (l ++ t.types)⟩])) := by
  induction n with
  | zero => intro t h; omega
  | succ n ih =>
    intro t h l hl0 hl1
    have hl := telen_lt t
    have hnl := t.nodes_le
    have hne := t.nodes_eq
    have ho := l1Copy _ (by omega) t.type (Nat.lt_of_lt_of_le (by cases t; simp only [Tm.size, Tm.type]; omega : t.type.size < t.size) (Nat.le_of_lt_succ h))
    have hcap0 : (l.length + 1) * 32 ≤ 140737488355328 := by omega
    have e0 : ownTys t.kind t.type = (match hasTy t.kind with | true => [t.type] | false => []) := rfl
    have hty : hasTy t.kind = (t.kind == 5 || t.kind == 13) := rfl
    have hcases : (hasTy t.kind = true ∧ (t.kind == 5) = true ∧ (t.kind == 13) = false) ∨ (hasTy t.kind = true ∧ (t.kind == 5) = false ∧ (t.kind == 13) = true) ∨ (hasTy t.kind = false ∧ (t.kind == 5) = false ∧ (t.kind == 13) = false) := by
      rw [hty]
      cases e5 : (t.kind == 5)
      · cases (t.kind == 13) <;> simp
      · have : (t.kind == 13) = false := by rw [beq_eq_false_iff_ne]; have := beq_iff_eq.1 e5; omega
        simp [this]
    rcases hcases with ⟨hT, hk5, hk13⟩ | ⟨hT, hk5, hk13⟩ | ⟨hT, hk5, hk13⟩
    all_goals
      rw [hT] at e0
      simp only [] at e0
      refine acl_in Try.func150 rfl isfn_150 (Nat.le_of_ble_eq_true rfl) (fun R hR => ?_); rw [Try.results150] at hR; refine wg_run ?_; (simp only [Try.f150, go_sem, hk5])
      repeat' (first | (first | (simp only [go_sem, hk5, hk13, hcap0]) | (((first | apply sp1 | apply sp2 | apply sp3 | apply sp4 | apply sp5 | apply sp6 | apply sp7) <;> intro hb) <;> (simp only [go_sem, hb, hk5, hk13, hcap0])) | ((first | apply wm_done | apply wt_done | apply wg_run | refine fk ?_ ?_) <;> (simp only [go_sem, hk5, hk13, hcap0]))) | (first | refine cdq ?_ (hc := ho) | refine cmq ?_ (hc := ho) | refine ctq ?_ (hc := ho)); (simp only [go_sem]))
      first
        | refine wd_for [0, 3, 5] (fun (x : Nat × Bool) => match x.2 with | false => [.one (.row 2 0 (l ++ (ownTys t.kind t.type ++ Tm.typess (t.kids.take x.1))).length), .one (.ptr 9 1 0 0), .one (.sc (.int .i64 (x.1 : Nat)))] | true => [.one (.row 2 1 (l ++ (ownTys t.kind t.type ++ Tm.typess (t.kids.take x.1))).length), .one (.ptr 9 2 0 0), .one (.sc (.int .i64 (x.1 : Nat)))])
            (fun x => match x.2 with | false => [⟨2, 25, .mut, tyR (l ++ (ownTys t.kind t.type ++ Tm.typess (t.kids.take x.1)))⟩, ⟨9, 28, .mut, [teC t]⟩] | true => [⟨2, 25, .dead, []⟩, ⟨2, 25, .mut, tyR (l ++ (ownTys t.kind t.type ++ Tm.typess (t.kids.take x.1)))⟩, ⟨9, 28, .mut, [teC t]⟩])
            (fun x => x.1 ≤ t.kids.length) (fun x => t.kids.length - x.1) (0, true) (Nat.zero_le _) (hat [3, 1] (hI := ⟨by rw [e0]; simp [Tm.typess], by rw [e0]; simp [Tm.typess, tyR_append, tyR]⟩)) ?_
        | refine wd_for [0, 3, 5] (fun (x : Nat × Bool) => match x.2 with | false => [.one (.row 2 0 (l ++ (ownTys t.kind t.type ++ Tm.typess (t.kids.take x.1))).length), .one (.ptr 9 1 0 0), .one (.sc (.int .i64 (x.1 : Nat)))] | true => [.one (.row 2 1 (l ++ (ownTys t.kind t.type ++ Tm.typess (t.kids.take x.1))).length), .one (.ptr 9 2 0 0), .one (.sc (.int .i64 (x.1 : Nat)))])
            (fun x => match x.2 with | false => [⟨2, 25, .mut, tyR (l ++ (ownTys t.kind t.type ++ Tm.typess (t.kids.take x.1)))⟩, ⟨9, 28, .mut, [teC t]⟩] | true => [⟨2, 25, .dead, []⟩, ⟨2, 25, .mut, tyR (l ++ (ownTys t.kind t.type ++ Tm.typess (t.kids.take x.1)))⟩, ⟨9, 28, .mut, [teC t]⟩])
            (fun x => x.1 ≤ t.kids.length) (fun x => t.kids.length - x.1) (0, false) (Nat.zero_le _) (hat [1] (hI := ⟨by rw [e0]; simp [Tm.typess]; done, by rw [e0]; simp [Tm.typess]; done⟩)) ?_
      rintro ⟨k, mv⟩ hk G hG
      simp only [] at hk
      have hal : (l ++ (ownTys t.kind t.type ++ Tm.typess (t.kids.take k))).length ≤ l.length + 1 + Tm.nodess (t.kids.take k) := by
        have := ownTys_len t.kind t.type; have := Tm.typess_len (t.kids.take k)
        simp only [List.length_append]; omega
      rcases mv with _ | _
      all_goals
        refine wg_run ?_
        (simp only [go_sem])
        ((first | apply sp1 | apply sp2 | apply sp3 | apply sp4 | apply sp5 | apply sp6 | apply sp7) <;> intro hb) <;> (simp only [go_sem, hb])
        · have hk1 : k < t.kids.length := by have := of_decide_eq_true hb; omega
          have hw1 := wrap_succ hk1 (by omega)
          have hkn := Tm.nodess_le_take t.kids (k + 1)
          rw [Tm.nodess_take hk1] at hkn
          have hc := ih (by omega) (teKid t.kids k) (by have := teKid_lt hk1; omega) (l ++ (ownTys t.kind t.type ++ Tm.typess (t.kids.take k))) (by omega) (by omega)
          have hnx : l ++ (ownTys t.kind t.type ++ Tm.typess (t.kids.take k)) ++ (teKid t.kids k).types = l ++ (ownTys t.kind t.type ++ Tm.typess (t.kids.take (k + 1))) := by rw [Tm.typess_take hk1]; simp only [List.append_assoc]
          rw [hnx] at hc
          first
            | (repeat' (first | (first | (simp only [go_sem, hw1, hb]) | (((first | apply sp1 | apply sp2 | apply sp3 | apply sp4 | apply sp5 | apply sp6 | apply sp7) <;> intro hb) <;> (simp only [go_sem, hb, hw1, hb])) | ((first | apply wm_done | apply wt_done | apply wg_run | refine fk ?_ ?_) <;> (simp only [go_sem, hw1, hb]))) | ((first | refine kdq [0] ?_ (hc := hc) | refine kmq [0] ?_ (hc := hc) | refine ktq [0] ?_ (hc := hc)); rintro _ _ (⟨rfl, rfl⟩ | ⟨rfl, rfl⟩) <;> (simp only [go_sem])))
               all_goals (try (simp only [go_sem, hw1]))
               · exact hG (k + 1, false) _ _ (by simp only []; omega) (by simp only []; omega) (hat [1] (hI := ⟨rfl, rfl⟩))
               · exact hG (k + 1, true) _ _ (by simp only []; omega) (by simp only []; omega) (hat [2, 1] (hI := ⟨rfl, rfl⟩)))
            | (repeat' (first | (first | (simp only [go_sem, hw1, hb]) | (((first | apply sp1 | apply sp2 | apply sp3 | apply sp4 | apply sp5 | apply sp6 | apply sp7) <;> intro hb) <;> (simp only [go_sem, hb, hw1, hb])) | ((first | apply wm_done | apply wt_done | apply wg_run | refine fk ?_ ?_) <;> (simp only [go_sem, hw1, hb]))) | ((first | refine kdq [1] ?_ (hc := hc) | refine kmq [1] ?_ (hc := hc) | refine ktq [1] ?_ (hc := hc)); rintro _ _ (⟨rfl, rfl⟩ | ⟨rfl, rfl⟩) <;> (simp only [go_sem])))
               all_goals (try (simp only [go_sem, hw1]))
               · exact hG (k + 1, true) _ _ (by simp only []; omega) (by simp only []; omega) (hat [1, 2] (hI := ⟨rfl, rfl⟩))
               · exact hG (k + 1, true) _ _ (by simp only []; omega) (by simp only []; omega) (hat [3, 2] (hI := ⟨rfl, rfl⟩)))
        · have hk1 : t.kids.take k = t.kids := List.take_of_length_le (by have := of_decide_eq_false hb; omega)
          have htl : (ownTys t.kind t.type).length + (Tm.typess t.kids).length = t.types.length := by rw [Tm.types_eq, List.length_append]
          rw [hk1, ← Tm.types_eq]
          first
            | exact hR _ (ret_own [] (by (simp only [go_sem, htl]); first | done | rfl) (by (simp only [go_sem, htl]); first | done | rfl) (.inl ⟨rfl, rfl⟩))
            | exact hR _ (ret_own [1] (by (simp only [go_sem, htl]); first | done | rfl) (by (simp only [go_sem, htl]); first | done | rfl) (.inr ⟨rfl, rfl⟩))
end Go.Proofs.Ytfgjiamolknicaa
/- Types: counting what is unknown, on shadows. -/
namespace Go.Proofs.Ytfgjiamolknicaa
open Go.RowKit Go.Proofs.Sh Go.Proofs.Grad
set_option maxRecDepth 100000
set_option maxHeartbeats 4000000
end Go.Proofs.Ytfgjiamolknicaa
