/- Texts of the proof, one behind another. -/
import Derived.Laws.BitsLemmas
import Derived.Test.YtfgjiamolknicaaKY12
import Derived.Test.YtfgjiamolknicaaKY13
import Derived.Test.YtfgjiamolknicaaKY14
import Derived.Test.YtfgjiamolknicaaKY24
set_option linter.unusedSimpArgs false
set_option linter.unusedVariables false
/- Terms: values, on shadows. -/
namespace Go.Proofs.Grad
end Go.Proofs.Grad
namespace Go.Proofs.Ytfgjiamolknicaa
open Go.RowKit Go.Proofs.Sh Go.Proofs.Grad
set_option maxRecDepth 100000
set_option maxHeartbeats 8000000
end Go.Proofs.Ytfgjiamolknicaa
/- Steps of terms with casts: substitution and the rules, in the program. On shadows. -/
namespace Go.Proofs.Grad
theorem nm_beq (x y : UInt8) : ((nm x).toList == (nm y).toList) = (x == y) := by
  rw [Go.ByteArray.toList_eq, Go.ByteArray.toList_eq]; simp [nm]
end Go.Proofs.Grad
namespace Go.Proofs.Ytfgjiamolknicaa
open Go.RowKit Go.Proofs.Sh Go.Proofs.Grad
set_option maxRecDepth 100000
set_option maxHeartbeats 8000000
theorem iSubst (x : UInt8) (v : E) (e : E) : AFn Try.prog 69 [.agg (teC e.tm), .one (.sc (.string (nm x))), .agg (teC v.tm)] (.agg (teC (e.subst x v).tm)) := by
  induction e with
  | var y =>
    have hn := nm_beq y x
    simp only [E.subst]
    cases e1 : (y == x)
    all_goals
      rw [e1] at hn
      simp only [E.tm]
      refine fn_in ?_; refine acl_in Try.func69 rfl isfn_69 (Nat.le_of_ble_eq_true rfl) (fun R hR => ?_); rw [Try.results69] at hR; refine wg_run ?_; (simp only [Try.f69, go_sem, hn])
      repeat' (first | (first | (simp only [go_sem, hn]) | (((first | apply sp1 | apply sp2 | apply sp3 | apply sp4 | apply sp5 | apply sp6 | apply sp7) <;> intro hb) <;> (simp only [go_sem, hb, hn])) | ((first | apply wm_done | apply wt_done | apply wg_run | refine fk ?_ ?_) <;> (simp only [go_sem, hn]))) | (first | (refine wl_next (wg_run ?_); (simp only [go_sem])) | refine wd_rounds 6 ?_) | ((first | refine mxq6 [] ?_ | refine mxq5 [] ?_ | refine mxq4 [] ?_ | refine mxq3 [] ?_ | refine mxq2 [] ?_ | refine mxq1 [] ?_ | refine mxq0 [] ?_ | fail); (simp only [go_sem, hn])) | fail)
      (refine hR _ ?_; refine rat [] (hK := ⟨rfl, rfl⟩))
  | lam y t a ih =>
    have hn := nm_beq y x
    simp only [E.subst]
    cases e1 : (y == x)
    all_goals
      rw [e1] at hn
      simp only [E.tm]
      refine fn_in ?_; refine acl_in Try.func69 rfl isfn_69 (Nat.le_of_ble_eq_true rfl) (fun R hR => ?_); rw [Try.results69] at hR; refine wg_run ?_; (simp only [Try.f69, go_sem, hn])
      repeat' (first | (first | (simp only [go_sem, hn]) | (((first | apply sp1 | apply sp2 | apply sp3 | apply sp4 | apply sp5 | apply sp6 | apply sp7) <;> intro hb) <;> (simp only [go_sem, hb, hn])) | ((first | apply wm_done | apply wt_done | apply wg_run | refine fk ?_ ?_) <;> (simp only [go_sem, hn]))) | (first | (refine wl_next (wg_run ?_); (simp only [go_sem])) | refine wd_rounds 6 ?_) | ((first | refine mxq6 [] ?_ | refine mxq5 [] ?_ | refine mxq4 [] ?_ | refine mxq3 [] ?_ | refine mxq2 [] ?_ | refine mxq1 [] ?_ | refine mxq0 [] ?_ | fail); (simp only [go_sem, hn])) | (first | refine cdq ?_ (hc := ih) | refine cmq ?_ (hc := ih) | refine ctq ?_ (hc := ih)); (simp only [go_sem]) | fail)
      (refine hR _ ?_; refine rat [] (hK := ⟨rfl, rfl⟩))
  | num _ | tru | fls =>
    simp only [E.subst, E.tm, nd]
    refine fn_in ?_; refine acl_in Try.func69 rfl isfn_69 (Nat.le_of_ble_eq_true rfl) (fun R hR => ?_); rw [Try.results69] at hR; refine wg_run ?_; (simp only [Try.f69, go_sem])
    repeat' (first | (first | (((first | apply sp1 | apply sp2 | apply sp3 | apply sp4 | apply sp5 | apply sp6 | apply sp7) <;> intro hb) <;> (simp only [go_sem, hb])) | ((first | apply wm_done | apply wt_done | apply wg_run | refine fk ?_ ?_) <;> (simp only [go_sem]))) | (first | (refine wl_next (wg_run ?_); (simp only [go_sem])) | refine wd_rounds 6 ?_) | ((first | refine mxq6 [] ?_ | refine mxq5 [] ?_ | refine mxq4 [] ?_ | refine mxq3 [] ?_ | refine mxq2 [] ?_ | refine mxq1 [] ?_ | refine mxq0 [] ?_ | fail); (simp only [go_sem])) | fail)
    (refine hR _ ?_; refine rat [] (hK := ⟨rfl, rfl⟩))
  | app a b iha ihb | add a b iha ihb | less a b iha ihb | pair a b iha ihb =>
    simp only [E.subst, E.tm, nd]
    refine fn_in ?_; refine acl_in Try.func69 rfl isfn_69 (Nat.le_of_ble_eq_true rfl) (fun R hR => ?_); rw [Try.results69] at hR; refine wg_run ?_; (simp only [Try.f69, go_sem])
    repeat' (first | (first | (((first | apply sp1 | apply sp2 | apply sp3 | apply sp4 | apply sp5 | apply sp6 | apply sp7) <;> intro hb) <;> (simp only [go_sem, hb])) | ((first | apply wm_done | apply wt_done | apply wg_run | refine fk ?_ ?_) <;> (simp only [go_sem]))) | (first | (refine wl_next (wg_run ?_); (simp only [go_sem])) | refine wd_rounds 6 ?_) | ((first | refine mxq6 [] ?_ | refine mxq5 [] ?_ | refine mxq4 [] ?_ | refine mxq3 [] ?_ | refine mxq2 [] ?_ | refine mxq1 [] ?_ | refine mxq0 [] ?_ | fail); (simp only [go_sem])) | (first | refine cdq ?_ (hc := iha) | refine cmq ?_ (hc := iha) | refine ctq ?_ (hc := iha)); (simp only [go_sem]) | (first | refine cdq ?_ (hc := ihb) | refine cmq ?_ (hc := ihb) | refine ctq ?_ (hc := ihb)); (simp only [go_sem]) | fail)
    (refine hR _ ?_; refine rat [] (hK := ⟨rfl, rfl⟩))
  | ite a b c iha ihb ihc =>
    simp only [E.subst, E.tm, nd]
    refine fn_in ?_; refine acl_in Try.func69 rfl isfn_69 (Nat.le_of_ble_eq_true rfl) (fun R hR => ?_); rw [Try.results69] at hR; refine wg_run ?_; (simp only [Try.f69, go_sem])
    repeat' (first | (first | (((first | apply sp1 | apply sp2 | apply sp3 | apply sp4 | apply sp5 | apply sp6 | apply sp7) <;> intro hb) <;> (simp only [go_sem, hb])) | ((first | apply wm_done | apply wt_done | apply wg_run | refine fk ?_ ?_) <;> (simp only [go_sem]))) | (first | (refine wl_next (wg_run ?_); (simp only [go_sem])) | refine wd_rounds 6 ?_) | ((first | refine mxq6 [] ?_ | refine mxq5 [] ?_ | refine mxq4 [] ?_ | refine mxq3 [] ?_ | refine mxq2 [] ?_ | refine mxq1 [] ?_ | refine mxq0 [] ?_ | fail); (simp only [go_sem])) | (first | refine cdq ?_ (hc := iha) | refine cmq ?_ (hc := iha) | refine ctq ?_ (hc := iha)); (simp only [go_sem]) | (first | refine cdq ?_ (hc := ihb) | refine cmq ?_ (hc := ihb) | refine ctq ?_ (hc := ihb)); (simp only [go_sem]) | (first | refine cdq ?_ (hc := ihc) | refine cmq ?_ (hc := ihc) | refine ctq ?_ (hc := ihc)); (simp only [go_sem]) | fail)
    (refine hR _ ?_; refine rat [] (hK := ⟨rfl, rfl⟩))
  | fst a ih | snd a ih | cast s t l a ih =>
    simp only [E.subst, E.tm, nd]
    refine fn_in ?_; refine acl_in Try.func69 rfl isfn_69 (Nat.le_of_ble_eq_true rfl) (fun R hR => ?_); rw [Try.results69] at hR; refine wg_run ?_; (simp only [Try.f69, go_sem])
    repeat' (first | (first | (((first | apply sp1 | apply sp2 | apply sp3 | apply sp4 | apply sp5 | apply sp6 | apply sp7) <;> intro hb) <;> (simp only [go_sem, hb])) | ((first | apply wm_done | apply wt_done | apply wg_run | refine fk ?_ ?_) <;> (simp only [go_sem]))) | (first | (refine wl_next (wg_run ?_); (simp only [go_sem])) | refine wd_rounds 6 ?_) | ((first | refine mxq6 [] ?_ | refine mxq5 [] ?_ | refine mxq4 [] ?_ | refine mxq3 [] ?_ | refine mxq2 [] ?_ | refine mxq1 [] ?_ | refine mxq0 [] ?_ | fail); (simp only [go_sem])) | (first | refine cdq ?_ (hc := ih) | refine cmq ?_ (hc := ih) | refine ctq ?_ (hc := ih)); (simp only [go_sem]) | fail)
    (refine hR _ ?_; refine rat [] (hK := ⟨rfl, rfl⟩))
  | _ =>
    rename_i t a ih
    simp only [E.subst, E.tm, nd]
    refine fn_in ?_; refine acl_in Try.func69 rfl isfn_69 (Nat.le_of_ble_eq_true rfl) (fun R hR => ?_); rw [Try.results69] at hR; refine wg_run ?_; (simp only [Try.f69, go_sem])
    repeat' (first | (first | (((first | apply sp1 | apply sp2 | apply sp3 | apply sp4 | apply sp5 | apply sp6 | apply sp7) <;> intro hb) <;> (simp only [go_sem, hb])) | ((first | apply wm_done | apply wt_done | apply wg_run | refine fk ?_ ?_) <;> (simp only [go_sem]))) | (first | (refine wl_next (wg_run ?_); (simp only [go_sem])) | refine wd_rounds 6 ?_) | ((first | refine mxq6 [] ?_ | refine mxq5 [] ?_ | refine mxq4 [] ?_ | refine mxq3 [] ?_ | refine mxq2 [] ?_ | refine mxq1 [] ?_ | refine mxq0 [] ?_ | fail); (simp only [go_sem])) | (first | refine cdq ?_ (hc := ih) | refine cmq ?_ (hc := ih) | refine ctq ?_ (hc := ih)); (simp only [go_sem]) | fail)
    (refine hR _ ?_; refine rat [] (hK := ⟨rfl, rfl⟩))
end Go.Proofs.Ytfgjiamolknicaa
/- Free names of terms, in the program. On shadows. -/
namespace Go.Proofs.Sh
open Go.Proofs.Grad
/-- the letters of a set, as an array of 26 marks -/
def setR (p : UInt8 → Bool) : List C := letters.map fun x => .sc (.bool (p x))
@[go_sem] theorem setR_length (p : UInt8 → Bool) : (setR p).length = 26 := rfl
@[go_sem] theorem setR_treeL (p : UInt8 → Bool) : treeL (setR p) = true := by rfl
@[go_sem] theorem setR_take (p : UInt8 → Bool) : (setR p).take 26 = setR p := rfl
theorem setR_get (p : UInt8 → Bool) (k : Nat) (h : k < 26) : (setR p)[k]? = some (.sc (.bool (p (UInt8.ofNat (97 + k))))) := by
  rw [setR, List.getElem?_map, letters_get k h]; rfl
theorem splice_one (r : List C) (j : Nat) (c : C) (h : j < r.length) : splice r j [c] = r.set j c := by
  rw [splice, List.set_eq_take_append_cons_drop, if_pos h]; rfl
theorem setR_put (p : UInt8 → Bool) (y : UInt8) (hy : nmB y = true) : splice (setR p) (y.toNat - 97) [.sc (.bool true)] = setR (fun x => p x || x == y) := by
  simp only [nmB, Bool.and_eq_true, decide_eq_true_eq] at hy
  rw [splice_one _ _ _ (by rw [setR_length]; omega)]
  refine List.ext_getElem? fun k => ?_
  by_cases hk : k < 26
  · rw [setR_get _ k hk]
    by_cases e : y.toNat - 97 = k
    · subst e
      rw [List.getElem?_set_self (by rw [setR_length]; omega)]
      have : UInt8.ofNat (97 + (y.toNat - 97)) = y := UInt8.toNat_inj.1 (by simp only [UInt8.toNat_ofNat']; omega)
      rw [this]; simp
    · rw [List.getElem?_set_ne e, setR_get _ k hk]
      have : (UInt8.ofNat (97 + k) == y) = false := by
        simp only [beq_eq_false_iff_ne]
        intro h
        have := congrArg UInt8.toNat h
        simp only [UInt8.toNat_ofNat'] at this
        omega
      rw [this, Bool.or_false]
  · rw [List.getElem?_eq_none (by rw [List.length_set, setR_length]; omega), List.getElem?_eq_none (by rw [setR_length]; omega)]
end Go.Proofs.Sh
namespace Go.Proofs.Ytfgjiamolknicaa
open Go.RowKit Go.Proofs.Sh Go.Proofs.Grad
set_option maxRecDepth 100000
set_option maxHeartbeats 8000000
/-- what free does -/
def FreeC (e : E) : Prop := e.wf = true → ∀ (l : List UInt8) (p : UInt8 → Bool), l.length + e.depth < 1000000 → ACl Try.prog 132 [.agg (teC e.tm), .one (.sc (.string (bsOf l))), .one (.ptr 26 0 0 0)] [⟨26, 113, .mut, [setR p]⟩] (fun r H' => r = .tup [] ∧ H' = [⟨26, 113, .mut, [setR (fun x => p x || (e.fr x && !l.contains x))]⟩])
theorem iFree (e : E) : FreeC e := by
  induction e with
  | var y =>
    intro hw l p hd
    have hc := iContains l y
    simp only [E.wf] at hw
    have hput := setR_put p y hw
    simp only [nmB, Bool.and_eq_true, decide_eq_true_eq] at hw
    have hsub : IntKind.u8.wrap ((y.toNat : Int) - 97) = ((y.toNat - 97 : Nat) : Int) := by rw [wraps_u8 _ (by omega) (by omega)]; omega
    have d1 : decide (((y.toNat - 97 : Nat) : Int) < 26) = true := by simp; omega
    have d2 : decide (y.toNat - 97 ≤ 25) = true := by simp; omega
    have hsl := setR_length p
    have hnm : (nm y)[0]? = some y := rfl
    cases hcy : l.contains y
    · rw [hcy] at hc
      have e0 : (fun x => p x || ((E.var y).fr x && !l.contains x)) = (fun x => p x || x == y) := by
        funext x
        simp only [E.fr]
        by_cases e1 : y = x
        · subst e1; rw [hcy]; simp
        · have : (x == y) = false := by simp; exact fun h => e1 h.symm
          simp [e1, this]
      rw [e0]
      simp only [E.tm, nd]
      refine acl_in Try.func132 rfl isfn_132 (Nat.le_of_ble_eq_true rfl) (fun R hR => ?_); rw [Try.results132] at hR; refine wg_run ?_; (simp only [Try.f132, go_sem])
      repeat' (first | (first | (simp only [go_sem, hsub, d1, d2, hsl, hnm, hput]) | (((first | apply sp1 | apply sp2 | apply sp3 | apply sp4 | apply sp5 | apply sp6 | apply sp7) <;> intro hb) <;> (simp only [go_sem, hb, hsub, d1, d2, hsl, hnm, hput])) | ((first | apply wm_done | apply wt_done | apply wg_run | refine fk ?_ ?_) <;> (simp only [go_sem, hsub, d1, d2, hsl, hnm, hput]))) | (first | refine cdq ?_ (hc := hc) | refine cmq ?_ (hc := hc) | refine ctq ?_ (hc := hc)); (simp only [go_sem]) | (first | (refine wl_next (wg_run ?_); (simp only [go_sem])) | refine wd_rounds 6 ?_) | ((first | refine mxq6 [0] ?_ | refine mxq5 [0] ?_ | refine mxq4 [0] ?_ | refine mxq3 [0] ?_ | refine mxq2 [0] ?_ | refine mxq1 [0] ?_ | refine mxq0 [0] ?_ | fail); (simp only [go_sem])) | fail)
      exact hR _ (rat [] (hK := ⟨rfl, rfl⟩))
    · rw [hcy] at hc
      have e0 : (fun x => p x || ((E.var y).fr x && !l.contains x)) = p := by
        funext x
        simp only [E.fr]
        by_cases e1 : y = x
        · subst e1; rw [hcy]; simp
        · simp [e1]
      rw [e0]
      simp only [E.tm, nd]
      refine acl_in Try.func132 rfl isfn_132 (Nat.le_of_ble_eq_true rfl) (fun R hR => ?_); rw [Try.results132] at hR; refine wg_run ?_; (simp only [Try.f132, go_sem])
      repeat' (first | (first | (simp only [go_sem, hsub, d1, d2, hsl, hnm, hput]) | (((first | apply sp1 | apply sp2 | apply sp3 | apply sp4 | apply sp5 | apply sp6 | apply sp7) <;> intro hb) <;> (simp only [go_sem, hb, hsub, d1, d2, hsl, hnm, hput])) | ((first | apply wm_done | apply wt_done | apply wg_run | refine fk ?_ ?_) <;> (simp only [go_sem, hsub, d1, d2, hsl, hnm, hput]))) | (first | refine cdq ?_ (hc := hc) | refine cmq ?_ (hc := hc) | refine ctq ?_ (hc := hc)); (simp only [go_sem]) | (first | (refine wl_next (wg_run ?_); (simp only [go_sem])) | refine wd_rounds 6 ?_) | ((first | refine mxq6 [0] ?_ | refine mxq5 [0] ?_ | refine mxq4 [0] ?_ | refine mxq3 [0] ?_ | refine mxq2 [0] ?_ | refine mxq1 [0] ?_ | refine mxq0 [0] ?_ | fail); (simp only [go_sem])))
      exact hR _ (rat [] (hK := ⟨rfl, rfl⟩))
  | num n =>
    intro hw l p hd
    have e0 : (fun x => p x || ((E.num n).fr x && !l.contains x)) = p := by funext x; simp [E.fr]
    rw [e0]
    simp only [E.tm, nd]
    refine acl_in Try.func132 rfl isfn_132 (Nat.le_of_ble_eq_true rfl) (fun R hR => ?_); rw [Try.results132] at hR; refine wg_run ?_; (simp only [Try.f132, go_sem])
    repeat' (first | (first | (((first | apply sp1 | apply sp2 | apply sp3 | apply sp4 | apply sp5 | apply sp6 | apply sp7) <;> intro hb) <;> (simp only [go_sem, hb])) | ((first | apply wm_done | apply wt_done | apply wg_run | refine fk ?_ ?_) <;> (simp only [go_sem]))) | (first | (refine wl_next (wg_run ?_); (simp only [go_sem])) | refine wd_rounds 6 ?_) | ((first | refine mxq6 [0] ?_ | refine mxq5 [0] ?_ | refine mxq4 [0] ?_ | refine mxq3 [0] ?_ | refine mxq2 [0] ?_ | refine mxq1 [0] ?_ | refine mxq0 [0] ?_ | fail); (simp only [go_sem])))
    exact hR _ (rat [] (hK := ⟨rfl, rfl⟩))
  | tru =>
    intro hw l p hd
    have e0 : (fun x => p x || ((E.tru).fr x && !l.contains x)) = p := by funext x; simp [E.fr]
    rw [e0]
    simp only [E.tm, nd]
    refine acl_in Try.func132 rfl isfn_132 (Nat.le_of_ble_eq_true rfl) (fun R hR => ?_); rw [Try.results132] at hR; refine wg_run ?_; (simp only [Try.f132, go_sem])
    repeat' (first | (first | (((first | apply sp1 | apply sp2 | apply sp3 | apply sp4 | apply sp5 | apply sp6 | apply sp7) <;> intro hb) <;> (simp only [go_sem, hb])) | ((first | apply wm_done | apply wt_done | apply wg_run | refine fk ?_ ?_) <;> (simp only [go_sem]))) | (first | (refine wl_next (wg_run ?_); (simp only [go_sem])) | refine wd_rounds 6 ?_) | ((first | refine mxq6 [0] ?_ | refine mxq5 [0] ?_ | refine mxq4 [0] ?_ | refine mxq3 [0] ?_ | refine mxq2 [0] ?_ | refine mxq1 [0] ?_ | refine mxq0 [0] ?_ | fail); (simp only [go_sem])))
    exact hR _ (rat [] (hK := ⟨rfl, rfl⟩))
  | fls =>
    intro hw l p hd
    have e0 : (fun x => p x || ((E.fls).fr x && !l.contains x)) = p := by funext x; simp [E.fr]
    rw [e0]
    simp only [E.tm, nd]
    refine acl_in Try.func132 rfl isfn_132 (Nat.le_of_ble_eq_true rfl) (fun R hR => ?_); rw [Try.results132] at hR; refine wg_run ?_; (simp only [Try.f132, go_sem])
    repeat' (first | (first | (((first | apply sp1 | apply sp2 | apply sp3 | apply sp4 | apply sp5 | apply sp6 | apply sp7) <;> intro hb) <;> (simp only [go_sem, hb])) | ((first | apply wm_done | apply wt_done | apply wg_run | refine fk ?_ ?_) <;> (simp only [go_sem]))) | (first | (refine wl_next (wg_run ?_); (simp only [go_sem])) | refine wd_rounds 6 ?_) | ((first | refine mxq6 [0] ?_ | refine mxq5 [0] ?_ | refine mxq4 [0] ?_ | refine mxq3 [0] ?_ | refine mxq2 [0] ?_ | refine mxq1 [0] ?_ | refine mxq0 [0] ?_ | fail); (simp only [go_sem])))
    exact hR _ (rat [] (hK := ⟨rfl, rfl⟩))
  | lam y t a ih =>
    intro hw l p hd
    simp only [E.wf, Bool.and_eq_true] at hw
    simp only [E.depth] at hd
    have h1 := ih hw.2.2 (l ++ [y]) p (by simp; omega)
    have hz : addOk (bsOf l) (nm y) = true := addOk_of (by rw [bsOf_size, nm_size]; omega)
    have hap : bsOf l ++ nm y = bsOf (l ++ [y]) := bsOf_append l [y]
    have e0 : (fun x => p x || ((E.lam y t a).fr x && !l.contains x)) = (fun x => p x || (a.fr x && !(l ++ [y]).contains x)) := by
      funext x
      simp only [E.fr, List.contains_append, List.contains_cons, List.contains_nil, Bool.or_false]
      by_cases e1 : y = x
      · subst e1; simp
      · have e2 : (x == y) = false := by simp; exact fun h => e1 h.symm
        have e3 : (y == x) = false := by simpa using e1
        rw [e2, e3]; simp
    rw [e0]
    simp only [E.tm, nd]
    generalize a.tm = t1 at *
    refine acl_in Try.func132 rfl isfn_132 (Nat.le_of_ble_eq_true rfl) (fun R hR => ?_); rw [Try.results132] at hR; refine wg_run ?_; (simp only [Try.f132, go_sem])
    repeat' (first | (first | (simp only [go_sem, hz, hap]) | (((first | apply sp1 | apply sp2 | apply sp3 | apply sp4 | apply sp5 | apply sp6 | apply sp7) <;> intro hb) <;> (simp only [go_sem, hb, hz, hap])) | ((first | apply wm_done | apply wt_done | apply wg_run | refine fk ?_ ?_) <;> (simp only [go_sem, hz, hap]))) | (first | refine kdq [0] ?_ (hc := h1) | refine kmq [0] ?_ (hc := h1) | refine ktq [0] ?_ (hc := h1)); rintro _ _ ⟨rfl, rfl⟩; (simp only [go_sem]) | (first | (refine wl_next (wg_run ?_); (simp only [go_sem])) | refine wd_rounds 6 ?_) | ((first | refine mxq6 [0] ?_ | refine mxq5 [0] ?_ | refine mxq4 [0] ?_ | refine mxq3 [0] ?_ | refine mxq2 [0] ?_ | refine mxq1 [0] ?_ | refine mxq0 [0] ?_ | fail); (simp only [go_sem])))
    exact hR _ (rat [] (hK := ⟨rfl, rfl⟩))
  | app a b iha ihb =>
    intro hw l p hd
    simp only [E.wf, Bool.and_eq_true] at hw
    simp only [E.depth] at hd
    have h1 := iha hw.1 l (p) (by omega)
    have h2 := ihb hw.2 l (fun x => p x || (a.fr x && !l.contains x)) (by omega)
    have e0 : (fun x => p x || ((E.app a b).fr x && !l.contains x)) = (fun x => (fun x => p x || (a.fr x && !l.contains x)) x || (b.fr x && !l.contains x)) := by
      funext x
      simp only [E.fr]
      try (cases p x <;> cases l.contains x <;> simp [Bool.or_assoc])
    rw [e0]
    simp only [E.tm, nd]
    generalize a.tm = a1 at *
    generalize b.tm = b1 at *
    clear e0 iha ihb
    refine acl_in Try.func132 rfl isfn_132 (Nat.le_of_ble_eq_true rfl) (fun R hR => ?_); rw [Try.results132] at hR; refine wg_run ?_; (simp only [Try.f132, go_sem])
    repeat' (first | (first | (((first | apply sp1 | apply sp2 | apply sp3 | apply sp4 | apply sp5 | apply sp6 | apply sp7) <;> intro hb) <;> (simp only [go_sem, hb])) | ((first | apply wm_done | apply wt_done | apply wg_run | refine fk ?_ ?_) <;> (simp only [go_sem]))) | (first | refine kdq [0] ?_ (hc := h1) | refine kmq [0] ?_ (hc := h1) | refine ktq [0] ?_ (hc := h1)); rintro _ _ ⟨rfl, rfl⟩; (simp only [go_sem]) | (first | refine kdq [0] ?_ (hc := h2) | refine kmq [0] ?_ (hc := h2) | refine ktq [0] ?_ (hc := h2)); rintro _ _ ⟨rfl, rfl⟩; (simp only [go_sem]) | (first | (refine wl_next (wg_run ?_); (simp only [go_sem])) | refine wd_rounds 6 ?_) | ((first | refine mxq6 [0] ?_ | refine mxq5 [0] ?_ | refine mxq4 [0] ?_ | refine mxq3 [0] ?_ | refine mxq2 [0] ?_ | refine mxq1 [0] ?_ | refine mxq0 [0] ?_ | fail); (simp only [go_sem])))
    exact hR _ (rat [] (hK := ⟨rfl, rfl⟩))
  | add a b iha ihb =>
    intro hw l p hd
    simp only [E.wf, Bool.and_eq_true] at hw
    simp only [E.depth] at hd
    have h1 := iha hw.1 l (p) (by omega)
    have h2 := ihb hw.2 l (fun x => p x || (a.fr x && !l.contains x)) (by omega)
    have e0 : (fun x => p x || ((E.add a b).fr x && !l.contains x)) = (fun x => (fun x => p x || (a.fr x && !l.contains x)) x || (b.fr x && !l.contains x)) := by
      funext x
      simp only [E.fr]
      try (cases p x <;> cases l.contains x <;> simp [Bool.or_assoc])
    rw [e0]
    simp only [E.tm, nd]
    generalize a.tm = a1 at *
    generalize b.tm = b1 at *
    clear e0 iha ihb
    refine acl_in Try.func132 rfl isfn_132 (Nat.le_of_ble_eq_true rfl) (fun R hR => ?_); rw [Try.results132] at hR; refine wg_run ?_; (simp only [Try.f132, go_sem])
    repeat' (first | (first | (((first | apply sp1 | apply sp2 | apply sp3 | apply sp4 | apply sp5 | apply sp6 | apply sp7) <;> intro hb) <;> (simp only [go_sem, hb])) | ((first | apply wm_done | apply wt_done | apply wg_run | refine fk ?_ ?_) <;> (simp only [go_sem]))) | (first | refine kdq [0] ?_ (hc := h1) | refine kmq [0] ?_ (hc := h1) | refine ktq [0] ?_ (hc := h1)); rintro _ _ ⟨rfl, rfl⟩; (simp only [go_sem]) | (first | refine kdq [0] ?_ (hc := h2) | refine kmq [0] ?_ (hc := h2) | refine ktq [0] ?_ (hc := h2)); rintro _ _ ⟨rfl, rfl⟩; (simp only [go_sem]) | (first | (refine wl_next (wg_run ?_); (simp only [go_sem])) | refine wd_rounds 6 ?_) | ((first | refine mxq6 [0] ?_ | refine mxq5 [0] ?_ | refine mxq4 [0] ?_ | refine mxq3 [0] ?_ | refine mxq2 [0] ?_ | refine mxq1 [0] ?_ | refine mxq0 [0] ?_ | fail); (simp only [go_sem])))
    exact hR _ (rat [] (hK := ⟨rfl, rfl⟩))
  | less a b iha ihb =>
    intro hw l p hd
    simp only [E.wf, Bool.and_eq_true] at hw
    simp only [E.depth] at hd
    have h1 := iha hw.1 l (p) (by omega)
    have h2 := ihb hw.2 l (fun x => p x || (a.fr x && !l.contains x)) (by omega)
    have e0 : (fun x => p x || ((E.less a b).fr x && !l.contains x)) = (fun x => (fun x => p x || (a.fr x && !l.contains x)) x || (b.fr x && !l.contains x)) := by
      funext x
      simp only [E.fr]
      try (cases p x <;> cases l.contains x <;> simp [Bool.or_assoc])
    rw [e0]
    simp only [E.tm, nd]
    generalize a.tm = a1 at *
    generalize b.tm = b1 at *
    clear e0 iha ihb
    refine acl_in Try.func132 rfl isfn_132 (Nat.le_of_ble_eq_true rfl) (fun R hR => ?_); rw [Try.results132] at hR; refine wg_run ?_; (simp only [Try.f132, go_sem])
    repeat' (first | (first | (((first | apply sp1 | apply sp2 | apply sp3 | apply sp4 | apply sp5 | apply sp6 | apply sp7) <;> intro hb) <;> (simp only [go_sem, hb])) | ((first | apply wm_done | apply wt_done | apply wg_run | refine fk ?_ ?_) <;> (simp only [go_sem]))) | (first | refine kdq [0] ?_ (hc := h1) | refine kmq [0] ?_ (hc := h1) | refine ktq [0] ?_ (hc := h1)); rintro _ _ ⟨rfl, rfl⟩; (simp only [go_sem]) | (first | refine kdq [0] ?_ (hc := h2) | refine kmq [0] ?_ (hc := h2) | refine ktq [0] ?_ (hc := h2)); rintro _ _ ⟨rfl, rfl⟩; (simp only [go_sem]) | (first | (refine wl_next (wg_run ?_); (simp only [go_sem])) | refine wd_rounds 6 ?_) | ((first | refine mxq6 [0] ?_ | refine mxq5 [0] ?_ | refine mxq4 [0] ?_ | refine mxq3 [0] ?_ | refine mxq2 [0] ?_ | refine mxq1 [0] ?_ | refine mxq0 [0] ?_ | fail); (simp only [go_sem])))
    exact hR _ (rat [] (hK := ⟨rfl, rfl⟩))
  | pair a b iha ihb =>
    intro hw l p hd
    simp only [E.wf, Bool.and_eq_true] at hw
    simp only [E.depth] at hd
    have h1 := iha hw.1 l (p) (by omega)
    have h2 := ihb hw.2 l (fun x => p x || (a.fr x && !l.contains x)) (by omega)
    have e0 : (fun x => p x || ((E.pair a b).fr x && !l.contains x)) = (fun x => (fun x => p x || (a.fr x && !l.contains x)) x || (b.fr x && !l.contains x)) := by
      funext x
      simp only [E.fr]
      try (cases p x <;> cases l.contains x <;> simp [Bool.or_assoc])
    rw [e0]
    simp only [E.tm, nd]
    generalize a.tm = a1 at *
    generalize b.tm = b1 at *
    clear e0 iha ihb
    refine acl_in Try.func132 rfl isfn_132 (Nat.le_of_ble_eq_true rfl) (fun R hR => ?_); rw [Try.results132] at hR; refine wg_run ?_; (simp only [Try.f132, go_sem])
    repeat' (first | (first | (((first | apply sp1 | apply sp2 | apply sp3 | apply sp4 | apply sp5 | apply sp6 | apply sp7) <;> intro hb) <;> (simp only [go_sem, hb])) | ((first | apply wm_done | apply wt_done | apply wg_run | refine fk ?_ ?_) <;> (simp only [go_sem]))) | (first | refine kdq [0] ?_ (hc := h1) | refine kmq [0] ?_ (hc := h1) | refine ktq [0] ?_ (hc := h1)); rintro _ _ ⟨rfl, rfl⟩; (simp only [go_sem]) | (first | refine kdq [0] ?_ (hc := h2) | refine kmq [0] ?_ (hc := h2) | refine ktq [0] ?_ (hc := h2)); rintro _ _ ⟨rfl, rfl⟩; (simp only [go_sem]) | (first | (refine wl_next (wg_run ?_); (simp only [go_sem])) | refine wd_rounds 6 ?_) | ((first | refine mxq6 [0] ?_ | refine mxq5 [0] ?_ | refine mxq4 [0] ?_ | refine mxq3 [0] ?_ | refine mxq2 [0] ?_ | refine mxq1 [0] ?_ | refine mxq0 [0] ?_ | fail); (simp only [go_sem])))
    exact hR _ (rat [] (hK := ⟨rfl, rfl⟩))
  | ite a b c iha ihb ihc =>
    intro hw l p hd
    simp only [E.wf, Bool.and_eq_true] at hw
    simp only [E.depth] at hd
    have h1 := iha hw.1 l (p) (by omega)
    have h2 := ihb hw.2.1 l (fun x => p x || (a.fr x && !l.contains x)) (by omega)
    have h3 := ihc hw.2.2 l (fun x => (fun x => p x || (a.fr x && !l.contains x)) x || (b.fr x && !l.contains x)) (by omega)
    have e0 : (fun x => p x || ((E.ite a b c).fr x && !l.contains x)) = (fun x => (fun x => (fun x => p x || (a.fr x && !l.contains x)) x || (b.fr x && !l.contains x)) x || (c.fr x && !l.contains x)) := by
      funext x
      simp only [E.fr]
      try (cases p x <;> cases l.contains x <;> simp [Bool.or_assoc])
    rw [e0]
    simp only [E.tm, nd]
    generalize a.tm = a1 at *
    generalize b.tm = b1 at *
    generalize c.tm = c1 at *
    clear e0 iha ihb ihc
    refine acl_in Try.func132 rfl isfn_132 (Nat.le_of_ble_eq_true rfl) (fun R hR => ?_); rw [Try.results132] at hR; refine wg_run ?_; (simp only [Try.f132, go_sem])
    repeat' (first | (first | (((first | apply sp1 | apply sp2 | apply sp3 | apply sp4 | apply sp5 | apply sp6 | apply sp7) <;> intro hb) <;> (simp only [go_sem, hb])) | ((first | apply wm_done | apply wt_done | apply wg_run | refine fk ?_ ?_) <;> (simp only [go_sem]))) | (first | refine kdq [0] ?_ (hc := h1) | refine kmq [0] ?_ (hc := h1) | refine ktq [0] ?_ (hc := h1)); rintro _ _ ⟨rfl, rfl⟩; (simp only [go_sem]) | (first | refine kdq [0] ?_ (hc := h2) | refine kmq [0] ?_ (hc := h2) | refine ktq [0] ?_ (hc := h2)); rintro _ _ ⟨rfl, rfl⟩; (simp only [go_sem]) | (first | refine kdq [0] ?_ (hc := h3) | refine kmq [0] ?_ (hc := h3) | refine ktq [0] ?_ (hc := h3)); rintro _ _ ⟨rfl, rfl⟩; (simp only [go_sem]) | (first | (refine wl_next (wg_run ?_); (simp only [go_sem])) | refine wd_rounds 6 ?_) | ((first | refine mxq6 [0] ?_ | refine mxq5 [0] ?_ | refine mxq4 [0] ?_ | refine mxq3 [0] ?_ | refine mxq2 [0] ?_ | refine mxq1 [0] ?_ | refine mxq0 [0] ?_ | fail); (simp only [go_sem])))
    exact hR _ (rat [] (hK := ⟨rfl, rfl⟩))
  | fst a iha =>
    intro hw l p hd
    simp only [E.wf] at hw
    simp only [E.depth] at hd
    have h1 := iha hw l (p) (by omega)
    have e0 : (fun x => p x || ((E.fst a).fr x && !l.contains x)) = (fun x => p x || (a.fr x && !l.contains x)) := by
      funext x
      simp only [E.fr]
      try (cases p x <;> cases l.contains x <;> simp [Bool.or_assoc])
    rw [e0]
    simp only [E.tm, nd]
    generalize a.tm = a1 at *
    clear e0 iha
    refine acl_in Try.func132 rfl isfn_132 (Nat.le_of_ble_eq_true rfl) (fun R hR => ?_); rw [Try.results132] at hR; refine wg_run ?_; (simp only [Try.f132, go_sem])
    repeat' (first | (first | (((first | apply sp1 | apply sp2 | apply sp3 | apply sp4 | apply sp5 | apply sp6 | apply sp7) <;> intro hb) <;> (simp only [go_sem, hb])) | ((first | apply wm_done | apply wt_done | apply wg_run | refine fk ?_ ?_) <;> (simp only [go_sem]))) | (first | refine kdq [0] ?_ (hc := h1) | refine kmq [0] ?_ (hc := h1) | refine ktq [0] ?_ (hc := h1)); rintro _ _ ⟨rfl, rfl⟩; (simp only [go_sem]) | (first | (refine wl_next (wg_run ?_); (simp only [go_sem])) | refine wd_rounds 6 ?_) | ((first | refine mxq6 [0] ?_ | refine mxq5 [0] ?_ | refine mxq4 [0] ?_ | refine mxq3 [0] ?_ | refine mxq2 [0] ?_ | refine mxq1 [0] ?_ | refine mxq0 [0] ?_ | fail); (simp only [go_sem])))
    exact hR _ (rat [] (hK := ⟨rfl, rfl⟩))
  | snd a iha =>
    intro hw l p hd
    simp only [E.wf] at hw
    simp only [E.depth] at hd
    have h1 := iha hw l (p) (by omega)
    have e0 : (fun x => p x || ((E.snd a).fr x && !l.contains x)) = (fun x => p x || (a.fr x && !l.contains x)) := by
      funext x
      simp only [E.fr]
      try (cases p x <;> cases l.contains x <;> simp [Bool.or_assoc])
    rw [e0]
    simp only [E.tm, nd]
    generalize a.tm = a1 at *
    clear e0 iha
    refine acl_in Try.func132 rfl isfn_132 (Nat.le_of_ble_eq_true rfl) (fun R hR => ?_); rw [Try.results132] at hR; refine wg_run ?_; (simp only [Try.f132, go_sem])
    repeat' (first | (first | (((first | apply sp1 | apply sp2 | apply sp3 | apply sp4 | apply sp5 | apply sp6 | apply sp7) <;> intro hb) <;> (simp only [go_sem, hb])) | ((first | apply wm_done | apply wt_done | apply wg_run | refine fk ?_ ?_) <;> (simp only [go_sem]))) | (first | refine kdq [0] ?_ (hc := h1) | refine kmq [0] ?_ (hc := h1) | refine ktq [0] ?_ (hc := h1)); rintro _ _ ⟨rfl, rfl⟩; (simp only [go_sem]) | (first | (refine wl_next (wg_run ?_); (simp only [go_sem])) | refine wd_rounds 6 ?_) | ((first | refine mxq6 [0] ?_ | refine mxq5 [0] ?_ | refine mxq4 [0] ?_ | refine mxq3 [0] ?_ | refine mxq2 [0] ?_ | refine mxq1 [0] ?_ | refine mxq0 [0] ?_ | fail); (simp only [go_sem])))
    exact hR _ (rat [] (hK := ⟨rfl, rfl⟩))
  | asc t a iha =>
    intro hw l p hd
    simp only [E.wf, Bool.and_eq_true] at hw
    simp only [E.depth] at hd
    have h1 := iha hw.2 l (p) (by omega)
    have e0 : (fun x => p x || ((E.asc t a).fr x && !l.contains x)) = (fun x => p x || (a.fr x && !l.contains x)) := by
      funext x
      simp only [E.fr]
      try (cases p x <;> cases l.contains x <;> simp [Bool.or_assoc])
    rw [e0]
    simp only [E.tm, nd]
    generalize a.tm = a1 at *
    clear e0 iha
    refine acl_in Try.func132 rfl isfn_132 (Nat.le_of_ble_eq_true rfl) (fun R hR => ?_); rw [Try.results132] at hR; refine wg_run ?_; (simp only [Try.f132, go_sem])
    repeat' (first | (first | (((first | apply sp1 | apply sp2 | apply sp3 | apply sp4 | apply sp5 | apply sp6 | apply sp7) <;> intro hb) <;> (simp only [go_sem, hb])) | ((first | apply wm_done | apply wt_done | apply wg_run | refine fk ?_ ?_) <;> (simp only [go_sem]))) | (first | refine kdq [0] ?_ (hc := h1) | refine kmq [0] ?_ (hc := h1) | refine ktq [0] ?_ (hc := h1)); rintro _ _ ⟨rfl, rfl⟩; (simp only [go_sem]) | (first | (refine wl_next (wg_run ?_); (simp only [go_sem])) | refine wd_rounds 6 ?_) | ((first | refine mxq6 [0] ?_ | refine mxq5 [0] ?_ | refine mxq4 [0] ?_ | refine mxq3 [0] ?_ | refine mxq2 [0] ?_ | refine mxq1 [0] ?_ | refine mxq0 [0] ?_ | fail); (simp only [go_sem])))
    exact hR _ (rat [] (hK := ⟨rfl, rfl⟩))
  | cast s t k a iha =>
    intro hw l p hd
    simp only [E.wf, Bool.and_eq_true] at hw
    simp only [E.depth] at hd
    have h1 := iha hw.2.2.2 l (p) (by omega)
    have e0 : (fun x => p x || ((E.cast s t k a).fr x && !l.contains x)) = (fun x => p x || (a.fr x && !l.contains x)) := by
      funext x
      simp only [E.fr]
      try (cases p x <;> cases l.contains x <;> simp [Bool.or_assoc])
    rw [e0]
    simp only [E.tm, nd]
    generalize a.tm = a1 at *
    clear e0 iha
    refine acl_in Try.func132 rfl isfn_132 (Nat.le_of_ble_eq_true rfl) (fun R hR => ?_); rw [Try.results132] at hR; refine wg_run ?_; (simp only [Try.f132, go_sem])
    repeat' (first | (first | (((first | apply sp1 | apply sp2 | apply sp3 | apply sp4 | apply sp5 | apply sp6 | apply sp7) <;> intro hb) <;> (simp only [go_sem, hb])) | ((first | apply wm_done | apply wt_done | apply wg_run | refine fk ?_ ?_) <;> (simp only [go_sem]))) | (first | refine kdq [0] ?_ (hc := h1) | refine kmq [0] ?_ (hc := h1) | refine ktq [0] ?_ (hc := h1)); rintro _ _ ⟨rfl, rfl⟩; (simp only [go_sem]) | (first | (refine wl_next (wg_run ?_); (simp only [go_sem])) | refine wd_rounds 6 ?_) | ((first | refine mxq6 [0] ?_ | refine mxq5 [0] ?_ | refine mxq4 [0] ?_ | refine mxq3 [0] ?_ | refine mxq2 [0] ?_ | refine mxq1 [0] ?_ | refine mxq0 [0] ?_ | fail); (simp only [go_sem])))
    exact hR _ (rat [] (hK := ⟨rfl, rfl⟩))
theorem iFreeNames0 (e : E) (hw : e.wf = true) (hd : e.depth < 1000) : AFn Try.prog 64 [.agg (teC e.tm)] (.one (.sc (.string (bsOf (names (fun x => e.fr x)))))) := by
  have hf := iFree e hw [] (fun _ => false) (by simp; omega)
  rw [show setR (fun _ => false) = [.sc (.bool false), .sc (.bool false), .sc (.bool false), .sc (.bool false), .sc (.bool false), .sc (.bool false), .sc (.bool false), .sc (.bool false), .sc (.bool false), .sc (.bool false), .sc (.bool false), .sc (.bool false), .sc (.bool false), .sc (.bool false), .sc (.bool false), .sc (.bool false), .sc (.bool false), .sc (.bool false), .sc (.bool false), .sc (.bool false), .sc (.bool false), .sc (.bool false), .sc (.bool false), .sc (.bool false), .sc (.bool false), .sc (.bool false)] from rfl, show bsOf [] = ⟨#[]⟩ from rfl] at hf
  have e0 : (fun x => false || (e.fr x && !([] : List UInt8).contains x)) = (fun x => e.fr x) := by funext x; simp
  rw [e0] at hf
  clear e0
  generalize (fun x => e.fr x) = p at *
  generalize e.tm = t at *
  have hsl := setR_length p
  refine fn_in ?_; refine acl_in Try.func64 rfl isfn_64 (Nat.le_of_ble_eq_true rfl) (fun R hR => ?_); rw [Try.results64] at hR; refine wg_run ?_; (simp only [Try.f64, go_sem])
  repeat' (first | (first | (((first | apply sp1 | apply sp2 | apply sp3 | apply sp4 | apply sp5 | apply sp6 | apply sp7) <;> intro hb) <;> (simp only [go_sem, hb])) | ((first | apply wm_done | apply wt_done | apply wg_run | refine fk ?_ ?_) <;> (simp only [go_sem]))) | (first | refine kdq [1] ?_ (hc := hf) | refine kmq [1] ?_ (hc := hf) | refine ktq [1] ?_ (hc := hf)); rintro _ _ ⟨rfl, rfl⟩; (simp only [go_sem]) | fail)
  refine wd_for (σ := Nat) [4, 9, 10] (fun k => [.one (.sc (.string (bsOf (namesK p k)))), .agg (setR p), .one (.sc (.int .i64 (k : Nat)))]) (fun _ => []) (fun k => k ≤ 26) (fun k => 26 - k) 0 (Nat.zero_le _) (hat [] (hI := ⟨rfl, rfl⟩)) ?_
  rintro k hk G hG
  refine wg_run ?_
  by_cases hk1 : k < 26
  · have d1 : decide ((k : Int) < 26) = true := by simp; omega
    have hw1 := wrap_succ hk1 (by omega)
    have hget := setR_get p k hk1
    have hs1 : IntKind.i64.wrap (97 + (k : Int)) = ((97 + k : Nat) : Int) := by rw [IntWalk.i64_in _ (by omega)]; omega
    have hu1 : IntKind.u8.wrap ((97 + k : Nat) : Int) = ((97 + k : Nat) : Int) := wraps_u8 _ (by omega) (by omega)
    have hby : bytesOf [((97 + k : Nat) : Int)] = nm (UInt8.ofNat (97 + k)) := rfl
    have hlen := namesK_len p k
    have hz : addOk (bsOf (namesK p k)) (nm (UInt8.ofNat (97 + k))) = true := addOk_of (by rw [bsOf_size, nm_size]; omega)
    have hap : bsOf (namesK p k) ++ nm (UInt8.ofNat (97 + k)) = bsOf (namesK p k ++ [UInt8.ofNat (97 + k)]) := bsOf_append _ [_]
    have hsu := namesK_succ p k hk1
    have hdk : decide (k < 26) = true := by simp; omega
    cases e1 : p (UInt8.ofNat (97 + k))
    all_goals
      rw [e1] at hget hsu
      simp only [List.append_nil] at hsu
      repeat' (first | (first | (simp only [go_sem, d1, hw1, hget, hs1, hu1, hby, hz, hap, hsl, hdk]) | (((first | apply sp1 | apply sp2 | apply sp3 | apply sp4 | apply sp5 | apply sp6 | apply sp7) <;> intro hb) <;> (simp only [go_sem, hb, d1, hw1, hget, hs1, hu1, hby, hz, hap, hsl, hdk])) | ((first | apply wm_done | apply wt_done | apply wg_run | refine fk ?_ ?_) <;> (simp only [go_sem, d1, hw1, hget, hs1, hu1, hby, hz, hap, hsl, hdk]))) | fail)
      exact hG (k + 1) _ _ (by omega) (by omega) (hat [] (hI := ⟨by rw [hsu], rfl⟩))
  · have d1 : decide ((k : Int) < 26) = false := by simp; omega
    have : k = 26 := by omega
    subst this
    clear hG
    rw [namesK_all]
    repeat' (first | (first | (simp only [go_sem, d1]) | (((first | apply sp1 | apply sp2 | apply sp3 | apply sp4 | apply sp5 | apply sp6 | apply sp7) <;> intro hb) <;> (simp only [go_sem, hb, d1])) | ((first | apply wm_done | apply wt_done | apply wg_run | refine fk ?_ ?_) <;> (simp only [go_sem, d1]))) | fail)
    (refine hR _ (rat [] (hK := ⟨rfl, rfl⟩)))
theorem iFreeNames (e : E) (h : e.okT = true) : AFn Try.prog 17 [.agg (teC e.tm)] (.one (.sc (.string (bsOf (names (fun x => e.fr x)))))) := by
  have hv := iTermV e.tm
  rw [E.termV_tm, h] at hv
  simp only [E.okT, Bool.and_eq_true, decide_eq_true_eq] at h
  have h1 := iFreeNames0 e h.1 (by omega)
  refine fn_in ?_; refine acl_in Try.func17 rfl isfn_17 (Nat.le_of_ble_eq_true rfl) (fun R hR => ?_); rw [Try.results17] at hR; refine wg_run ?_; (simp only [Try.f17, go_sem])
  repeat' (first | (first | (((first | apply sp1 | apply sp2 | apply sp3 | apply sp4 | apply sp5 | apply sp6 | apply sp7) <;> intro hb) <;> (simp only [go_sem, hb])) | ((first | apply wm_done | apply wt_done | apply wg_run | refine fk ?_ ?_) <;> (simp only [go_sem]))) | (first | refine cdq ?_ (hc := hv) | refine cmq ?_ (hc := hv) | refine ctq ?_ (hc := hv)); (simp only [go_sem]) | (first | refine cdq ?_ (hc := h1) | refine cmq ?_ (hc := h1) | refine ctq ?_ (hc := h1)); (simp only [go_sem]) | fail)
  (refine hR _ (rat [] (hK := ⟨rfl, rfl⟩)))
theorem iFreeNamesBad (t : Tm) (h : t.termV = false) : AFn Try.prog 17 [.agg (teC t)] (.one (.sc (.string ⟨#[]⟩))) := by
  have hv := iTermV t
  rw [h] at hv
  refine fn_in ?_; refine acl_in Try.func17 rfl isfn_17 (Nat.le_of_ble_eq_true rfl) (fun R hR => ?_); rw [Try.results17] at hR; refine wg_run ?_; (simp only [Try.f17, go_sem])
  repeat' (first | (first | (((first | apply sp1 | apply sp2 | apply sp3 | apply sp4 | apply sp5 | apply sp6 | apply sp7) <;> intro hb) <;> (simp only [go_sem, hb])) | ((first | apply wm_done | apply wt_done | apply wg_run | refine fk ?_ ?_) <;> (simp only [go_sem]))) | (first | refine cdq ?_ (hc := hv) | refine cmq ?_ (hc := hv) | refine ctq ?_ (hc := hv)); (simp only [go_sem]) | fail)
  (refine hR _ (rat [] (hK := ⟨rfl, rfl⟩)))
end Go.Proofs.Ytfgjiamolknicaa
