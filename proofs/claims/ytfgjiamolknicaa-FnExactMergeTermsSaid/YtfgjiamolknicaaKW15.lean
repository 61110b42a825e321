/- Texts of the proof, one behind another. -/
import Derived.Lib.Strings
import Derived.Lib.Slices
import Derived.Lib.Walk
import Derived.Lib.Bytealg
import Derived.Test.YtfgjiamolknicaaKW8
import Derived.Test.YtfgjiamolknicaaKW12
import Derived.Test.YtfgjiamolknicaaKW13
import Derived.Test.YtfgjiamolknicaaKW14
set_option linter.unusedSimpArgs false
set_option linter.unusedVariables false
/- Terms: terms mapped by a function, on shadows. -/
namespace Go.Proofs.Grad
def E.mapE (φ : E → E) : E → E
  | .var x => φ (.var x)
  | .num n => φ (.num n)
  | .tru => φ .tru
  | .fls => φ .fls
  | .lam x t a => φ (.lam x t (a.mapE φ))
  | .app a b => φ (.app (a.mapE φ) (b.mapE φ))
  | .add a b => φ (.add (a.mapE φ) (b.mapE φ))
  | .less a b => φ (.less (a.mapE φ) (b.mapE φ))
  | .ite a b c => φ (.ite (a.mapE φ) (b.mapE φ) (c.mapE φ))
  | .pair a b => φ (.pair (a.mapE φ) (b.mapE φ))
  | .fst a => φ (.fst (a.mapE φ))
  | .snd a => φ (.snd (a.mapE φ))
  | .asc t a => φ (.asc t (a.mapE φ))
  | .cast s t l a => φ (.cast s t l (a.mapE φ))
theorem E.mapE_wf {φ : E → E} (h : ∀ x : E, x.wf = true → (φ x).wf = true) (e : E) : e.wf = true → (e.mapE φ).wf = true := by
  induction e with
  | var _ | num _ | tru | fls => intro hw; exact h _ hw
  | lam _ _ a ih => intro hw; simp only [E.wf, Bool.and_eq_true] at hw; refine h _ ?_; simp only [E.wf, Bool.and_eq_true]; exact ⟨hw.1, hw.2.1, ih hw.2.2⟩
  | app a b iha ihb | add a b iha ihb | less a b iha ihb | pair a b iha ihb =>
    intro hw; simp only [E.wf, Bool.and_eq_true] at hw; refine h _ ?_; simp only [E.wf, Bool.and_eq_true]; exact ⟨iha hw.1, ihb hw.2⟩
  | ite a b c iha ihb ihc =>
    intro hw; simp only [E.wf, Bool.and_eq_true] at hw; refine h _ ?_; simp only [E.wf, Bool.and_eq_true]; exact ⟨iha hw.1, ihb hw.2.1, ihc hw.2.2⟩
  | fst a ih | snd a ih => intro hw; refine h _ ?_; exact ih hw
  | cast s t l a ih => intro hw; simp only [E.wf, Bool.and_eq_true] at hw; refine h _ ?_; simp only [E.wf, Bool.and_eq_true]; exact ⟨hw.1, hw.2.1, hw.2.2.1, ih hw.2.2.2⟩
  | _ => rename_i t a ih; intro hw; simp only [E.wf, Bool.and_eq_true] at hw; refine h _ ?_; simp only [E.wf, Bool.and_eq_true]; exact ⟨hw.1, ih hw.2⟩
theorem E.mapE_id (e : E) : e.mapE id = e := by
  induction e <;> simp [E.mapE, *]
theorem T.ty_small {t : T} (h : t.depth ≤ 4) : t.ty.size < 1000 := by
  have : ∀ (x : T) (d : Nat), x.depth ≤ d → d ≤ 4 → x.size < 2 ^ d := by
    intro x
    induction x with
    | any | int | bool => intro d h1 h2; simp only [T.depth, T.size] at *; exact Nat.one_lt_two_pow (by omega)
    | fn a b iha ihb | pr a b iha ihb =>
      intro d h1 h2
      simp only [T.depth, T.size] at *
      obtain ⟨d, rfl⟩ : ∃ e, d = e + 1 := ⟨d - 1, by omega⟩
      have := iha d (by omega) (by omega); have := ihb d (by omega) (by omega)
      rw [Nat.pow_succ]; omega
  have := this t 4 h (Nat.le_refl _)
  rw [T.ty_size]; omega
end Go.Proofs.Grad
namespace Go.Proofs.Ytfgjiamolknicaa
open Go.RowKit Go.Proofs.Sh Go.Proofs.Grad
set_option maxRecDepth 100000
set_option maxHeartbeats 8000000
theorem iOwnNo : AFn Try.prog 145 [.agg (tyC noTy)] (.agg (tyC noTy)) := iOwnTy 1000 (by omega) noTy (by simp [noTy, Ty.size, Ty.sizes])
theorem iOwnT {t : T} (h : t.depth ≤ 4) : AFn Try.prog 145 [.agg (tyC t.ty)] (.agg (tyC t.ty)) := iOwnTy 1000 (by omega) t.ty (T.ty_small h)
theorem iMapped (g : FuncId) (φ : E → E) (hφ : ∀ x : E, x.wf = true → (φ x).wf = true) (hg : ∀ x : E, x.wf = true → AFn Try.prog g [.agg (teC x.tm)] (.agg (teC (φ x).tm))) (e : E) (h : e.wf = true) :
    AFn Try.prog 82 [.agg (teC e.tm), .one (.fn g [])] (.agg (teC (e.mapE φ).tm)) := by
  have ho := iOwnNo
  induction e with
  | var _ | num _ | tru | fls =>
    have hg := hg _ h
    simp only [E.mapE]
    rw [teC_eq] at hg
    simp only [E.tm, nd] at hg ⊢
    refine fn_in ?_; refine acl_in Try.func82 rfl isfn_82 (Nat.le_of_ble_eq_true rfl) (fun R hR => ?_); rw [Try.results82] at hR; refine wg_run ?_; (simp only [Try.f82, go_sem])
    repeat' (first | (first | (((first | apply sp1 | apply sp2 | apply sp3 | apply sp4 | apply sp5 | apply sp6 | apply sp7) <;> intro hb) <;> (simp only [go_sem, hb])) | ((first | apply wm_done | apply wt_done | apply wg_run | refine fk ?_ ?_) <;> (simp only [go_sem]))) | (first | (refine wl_next (wg_run ?_); (simp only [go_sem])) | refine wd_rounds 6 ?_) | (first | refine cdq ?_ (hc := ho) | refine cmq ?_ (hc := ho) | refine ctq ?_ (hc := ho)); (simp only [go_sem]) | ((first | refine mxq6 [] ?_ | refine mxq5 [] ?_ | refine mxq4 [] ?_ | refine mxq3 [] ?_ | refine mxq2 [] ?_ | refine mxq1 [] ?_ | refine mxq0 [] ?_ | fail); (simp only [go_sem])) | (first | refine cdq ?_ (hc := hg) | refine cmq ?_ (hc := hg) | refine ctq ?_ (hc := hg)); (simp only [go_sem]))
    (refine hR _ (rat [] (hK := ⟨?_, rfl⟩)))
    rfl
  | app a b iha ihb | add a b iha ihb | less a b iha ihb | pair a b iha ihb =>
    simp only [E.wf, Bool.and_eq_true] at h
    have iha := iha h.1
    have ihb := ihb h.2
    have wa := E.mapE_wf hφ a h.1
    have wb := E.mapE_wf hφ b h.2
    have g1 := hg (.app (a.mapE φ) (b.mapE φ)) (by simp only [E.wf, Bool.and_eq_true]; exact ⟨wa, wb⟩)
    have g2 := hg (.add (a.mapE φ) (b.mapE φ)) (by simp only [E.wf, Bool.and_eq_true]; exact ⟨wa, wb⟩)
    have g3 := hg (.less (a.mapE φ) (b.mapE φ)) (by simp only [E.wf, Bool.and_eq_true]; exact ⟨wa, wb⟩)
    have g4 := hg (.pair (a.mapE φ) (b.mapE φ)) (by simp only [E.wf, Bool.and_eq_true]; exact ⟨wa, wb⟩)
    clear hg
    simp only [E.mapE]
    rw [teC_eq] at g1 g2 g3 g4
    simp only [E.tm, nd, go_sem] at g1 g2 g3 g4 ⊢
    refine fn_in ?_; refine acl_in Try.func82 rfl isfn_82 (Nat.le_of_ble_eq_true rfl) (fun R hR => ?_); rw [Try.results82] at hR; refine wg_run ?_; (simp only [Try.f82, go_sem])
    repeat' (first | (first | (((first | apply sp1 | apply sp2 | apply sp3 | apply sp4 | apply sp5 | apply sp6 | apply sp7) <;> intro hb) <;> (simp only [go_sem, hb])) | ((first | apply wm_done | apply wt_done | apply wg_run | refine fk ?_ ?_) <;> (simp only [go_sem]))) | (first | (refine wl_next (wg_run ?_); (simp only [go_sem])) | refine wd_rounds 6 ?_) | (first | refine cdq ?_ (hc := iha) | refine cmq ?_ (hc := iha) | refine ctq ?_ (hc := iha)); (simp only [go_sem]) | (first | refine cdq ?_ (hc := ihb) | refine cmq ?_ (hc := ihb) | refine ctq ?_ (hc := ihb)); (simp only [go_sem]) | (first | refine cdq ?_ (hc := ho) | refine cmq ?_ (hc := ho) | refine ctq ?_ (hc := ho)); (simp only [go_sem]) | ((first | refine mxq6 [] ?_ | refine mxq5 [] ?_ | refine mxq4 [] ?_ | refine mxq3 [] ?_ | refine mxq2 [] ?_ | refine mxq1 [] ?_ | refine mxq0 [] ?_ | fail); (simp only [go_sem])) | (first | refine cdq ?_ (hc := g1) | refine cmq ?_ (hc := g1) | refine ctq ?_ (hc := g1)); (simp only [go_sem]) | (first | refine cdq ?_ (hc := g2) | refine cmq ?_ (hc := g2) | refine ctq ?_ (hc := g2)); (simp only [go_sem]) | (first | refine cdq ?_ (hc := g3) | refine cmq ?_ (hc := g3) | refine ctq ?_ (hc := g3)); (simp only [go_sem]) | (first | refine cdq ?_ (hc := g4) | refine cmq ?_ (hc := g4) | refine ctq ?_ (hc := g4)); (simp only [go_sem]))
    (refine hR _ (rat [] (hK := ⟨?_, rfl⟩)))
    rfl
  | ite a b c iha ihb ihc =>
    simp only [E.wf, Bool.and_eq_true] at h
    have iha := iha h.1
    have ihb := ihb h.2.1
    have ihc := ihc h.2.2
    have g1 := hg (.ite (a.mapE φ) (b.mapE φ) (c.mapE φ)) (by simp only [E.wf, Bool.and_eq_true]; exact ⟨E.mapE_wf hφ a h.1, E.mapE_wf hφ b h.2.1, E.mapE_wf hφ c h.2.2⟩)
    clear hg
    simp only [E.mapE]
    rw [teC_eq] at g1
    simp only [E.tm, nd, go_sem] at g1 ⊢
    refine fn_in ?_; refine acl_in Try.func82 rfl isfn_82 (Nat.le_of_ble_eq_true rfl) (fun R hR => ?_); rw [Try.results82] at hR; refine wg_run ?_; (simp only [Try.f82, go_sem])
    repeat' (first | (first | (((first | apply sp1 | apply sp2 | apply sp3 | apply sp4 | apply sp5 | apply sp6 | apply sp7) <;> intro hb) <;> (simp only [go_sem, hb])) | ((first | apply wm_done | apply wt_done | apply wg_run | refine fk ?_ ?_) <;> (simp only [go_sem]))) | (first | (refine wl_next (wg_run ?_); (simp only [go_sem])) | refine wd_rounds 6 ?_) | (first | refine cdq ?_ (hc := iha) | refine cmq ?_ (hc := iha) | refine ctq ?_ (hc := iha)); (simp only [go_sem]) | (first | refine cdq ?_ (hc := ihb) | refine cmq ?_ (hc := ihb) | refine ctq ?_ (hc := ihb)); (simp only [go_sem]) | (first | refine cdq ?_ (hc := ihc) | refine cmq ?_ (hc := ihc) | refine ctq ?_ (hc := ihc)); (simp only [go_sem]) | (first | refine cdq ?_ (hc := ho) | refine cmq ?_ (hc := ho) | refine ctq ?_ (hc := ho)); (simp only [go_sem]) | ((first | refine mxq6 [] ?_ | refine mxq5 [] ?_ | refine mxq4 [] ?_ | refine mxq3 [] ?_ | refine mxq2 [] ?_ | refine mxq1 [] ?_ | refine mxq0 [] ?_ | fail); (simp only [go_sem])) | (first | refine cdq ?_ (hc := g1) | refine cmq ?_ (hc := g1) | refine ctq ?_ (hc := g1)); (simp only [go_sem]))
    (refine hR _ (rat [] (hK := ⟨?_, rfl⟩)))
    rfl
  | lam x t a ih =>
    simp only [E.wf, Bool.and_eq_true, decide_eq_true_eq] at h
    have ih := ih h.2.2
    have hot := iOwnT h.2.1
    have g1 := hg (.lam x t (a.mapE φ)) (by simp only [E.wf, Bool.and_eq_true, decide_eq_true_eq]; exact ⟨h.1, h.2.1, E.mapE_wf hφ a h.2.2⟩)
    clear hg
    simp only [E.mapE]
    rw [teC_eq] at g1
    simp only [E.tm, nd, go_sem] at g1 ⊢
    refine fn_in ?_; refine acl_in Try.func82 rfl isfn_82 (Nat.le_of_ble_eq_true rfl) (fun R hR => ?_); rw [Try.results82] at hR; refine wg_run ?_; (simp only [Try.f82, go_sem])
    repeat' (first | (first | (((first | apply sp1 | apply sp2 | apply sp3 | apply sp4 | apply sp5 | apply sp6 | apply sp7) <;> intro hb) <;> (simp only [go_sem, hb])) | ((first | apply wm_done | apply wt_done | apply wg_run | refine fk ?_ ?_) <;> (simp only [go_sem]))) | (first | (refine wl_next (wg_run ?_); (simp only [go_sem])) | refine wd_rounds 6 ?_) | (first | refine cdq ?_ (hc := ih) | refine cmq ?_ (hc := ih) | refine ctq ?_ (hc := ih)); (simp only [go_sem]) | (first | refine cdq ?_ (hc := hot) | refine cmq ?_ (hc := hot) | refine ctq ?_ (hc := hot)); (simp only [go_sem]) | (first | refine cdq ?_ (hc := ho) | refine cmq ?_ (hc := ho) | refine ctq ?_ (hc := ho)); (simp only [go_sem]) | ((first | refine mxq6 [] ?_ | refine mxq5 [] ?_ | refine mxq4 [] ?_ | refine mxq3 [] ?_ | refine mxq2 [] ?_ | refine mxq1 [] ?_ | refine mxq0 [] ?_ | fail); (simp only [go_sem])) | (first | refine cdq ?_ (hc := g1) | refine cmq ?_ (hc := g1) | refine ctq ?_ (hc := g1)); (simp only [go_sem]))
    (refine hR _ (rat [] (hK := ⟨?_, rfl⟩)))
    rfl
  | fst a ih | snd a ih =>
    simp only [E.wf] at h
    have ih := ih h
    have g1 := hg (.fst (a.mapE φ)) (E.mapE_wf hφ a h)
    have g2 := hg (.snd (a.mapE φ)) (E.mapE_wf hφ a h)
    clear hg
    simp only [E.mapE]
    rw [teC_eq] at g1 g2
    simp only [E.tm, nd, go_sem] at g1 g2 ⊢
    refine fn_in ?_; refine acl_in Try.func82 rfl isfn_82 (Nat.le_of_ble_eq_true rfl) (fun R hR => ?_); rw [Try.results82] at hR; refine wg_run ?_; (simp only [Try.f82, go_sem])
    repeat' (first | (first | (((first | apply sp1 | apply sp2 | apply sp3 | apply sp4 | apply sp5 | apply sp6 | apply sp7) <;> intro hb) <;> (simp only [go_sem, hb])) | ((first | apply wm_done | apply wt_done | apply wg_run | refine fk ?_ ?_) <;> (simp only [go_sem]))) | (first | (refine wl_next (wg_run ?_); (simp only [go_sem])) | refine wd_rounds 6 ?_) | (first | refine cdq ?_ (hc := ih) | refine cmq ?_ (hc := ih) | refine ctq ?_ (hc := ih)); (simp only [go_sem]) | (first | refine cdq ?_ (hc := ho) | refine cmq ?_ (hc := ho) | refine ctq ?_ (hc := ho)); (simp only [go_sem]) | ((first | refine mxq6 [] ?_ | refine mxq5 [] ?_ | refine mxq4 [] ?_ | refine mxq3 [] ?_ | refine mxq2 [] ?_ | refine mxq1 [] ?_ | refine mxq0 [] ?_ | fail); (simp only [go_sem])) | (first | refine cdq ?_ (hc := g1) | refine cmq ?_ (hc := g1) | refine ctq ?_ (hc := g1)); (simp only [go_sem]) | (first | refine cdq ?_ (hc := g2) | refine cmq ?_ (hc := g2) | refine ctq ?_ (hc := g2)); (simp only [go_sem]))
    (refine hR _ (rat [] (hK := ⟨?_, rfl⟩)))
    rfl
  | cast s t l a ih =>
    simp only [E.wf, Bool.and_eq_true, decide_eq_true_eq] at h
    have ih := ih h.2.2.2
    have hos := iOwnT h.1.1
    have hot := iOwnT h.1.2
    have g1 := hg (.cast s t l (a.mapE φ)) (by simp only [E.wf, Bool.and_eq_true, decide_eq_true_eq]; exact ⟨h.1, h.2.1, h.2.2.1, E.mapE_wf hφ a h.2.2.2⟩)
    clear hg
    simp only [E.mapE]
    rw [teC_eq] at g1
    simp only [E.tm, nd, go_sem] at g1 ⊢
    refine fn_in ?_; refine acl_in Try.func82 rfl isfn_82 (Nat.le_of_ble_eq_true rfl) (fun R hR => ?_); rw [Try.results82] at hR; refine wg_run ?_; (simp only [Try.f82, go_sem])
    repeat' (first | (first | (((first | apply sp1 | apply sp2 | apply sp3 | apply sp4 | apply sp5 | apply sp6 | apply sp7) <;> intro hb) <;> (simp only [go_sem, hb])) | ((first | apply wm_done | apply wt_done | apply wg_run | refine fk ?_ ?_) <;> (simp only [go_sem]))) | (first | (refine wl_next (wg_run ?_); (simp only [go_sem])) | refine wd_rounds 6 ?_) | (first | refine cdq ?_ (hc := ih) | refine cmq ?_ (hc := ih) | refine ctq ?_ (hc := ih)); (simp only [go_sem]) | (first | refine cdq ?_ (hc := hot) | refine cmq ?_ (hc := hot) | refine ctq ?_ (hc := hot)); (simp only [go_sem]) | (first | refine cdq ?_ (hc := hos) | refine cmq ?_ (hc := hos) | refine ctq ?_ (hc := hos)); (simp only [go_sem]) | ((first | refine mxq6 [] ?_ | refine mxq5 [] ?_ | refine mxq4 [] ?_ | refine mxq3 [] ?_ | refine mxq2 [] ?_ | refine mxq1 [] ?_ | refine mxq0 [] ?_ | fail); (simp only [go_sem])) | (first | refine cdq ?_ (hc := g1) | refine cmq ?_ (hc := g1) | refine ctq ?_ (hc := g1)); (simp only [go_sem]))
    (refine hR _ (rat [] (hK := ⟨?_, rfl⟩)))
    rfl
  | _ =>
    rename_i t a ih
    simp only [E.wf, Bool.and_eq_true, decide_eq_true_eq] at h
    have ih := ih h.2
    have hot := iOwnT h.1
    have g1 := hg (E.asc t (a.mapE φ)) (by simp only [E.wf, Bool.and_eq_true, decide_eq_true_eq]; exact ⟨h.1, E.mapE_wf hφ a h.2⟩)
    clear hg
    simp only [E.mapE]
    rw [teC_eq] at g1
    simp only [E.tm, nd, go_sem] at g1 ⊢
    refine fn_in ?_; refine acl_in Try.func82 rfl isfn_82 (Nat.le_of_ble_eq_true rfl) (fun R hR => ?_); rw [Try.results82] at hR; refine wg_run ?_; (simp only [Try.f82, go_sem])
    repeat' (first | (first | (((first | apply sp1 | apply sp2 | apply sp3 | apply sp4 | apply sp5 | apply sp6 | apply sp7) <;> intro hb) <;> (simp only [go_sem, hb])) | ((first | apply wm_done | apply wt_done | apply wg_run | refine fk ?_ ?_) <;> (simp only [go_sem]))) | (first | (refine wl_next (wg_run ?_); (simp only [go_sem])) | refine wd_rounds 6 ?_) | (first | refine cdq ?_ (hc := ih) | refine cmq ?_ (hc := ih) | refine ctq ?_ (hc := ih)); (simp only [go_sem]) | (first | refine cdq ?_ (hc := hot) | refine cmq ?_ (hc := hot) | refine ctq ?_ (hc := hot)); (simp only [go_sem]) | (first | refine cdq ?_ (hc := ho) | refine cmq ?_ (hc := ho) | refine ctq ?_ (hc := ho)); (simp only [go_sem]) | ((first | refine mxq6 [] ?_ | refine mxq5 [] ?_ | refine mxq4 [] ?_ | refine mxq3 [] ?_ | refine mxq2 [] ?_ | refine mxq1 [] ?_ | refine mxq0 [] ?_ | fail); (simp only [go_sem])) | (first | refine cdq ?_ (hc := g1) | refine cmq ?_ (hc := g1) | refine ctq ?_ (hc := g1)); (simp only [go_sem]))
    (refine hR _ (rat [] (hK := ⟨?_, rfl⟩)))
    rfl
theorem iOwn1 (t : Tm) : AFn Try.prog 137 [.agg (teC t)] (.agg (teC t)) := by
  refine fn_in ?_; refine acl_in Try.func137 rfl isfn_137 (Nat.le_of_ble_eq_true rfl) (fun R hR => ?_); rw [Try.results137] at hR; refine wg_run ?_; (simp only [Try.f137, go_sem])
  repeat' (first | (((first | apply sp1 | apply sp2 | apply sp3 | apply sp4 | apply sp5 | apply sp6 | apply sp7) <;> intro hb) <;> (simp only [go_sem, hb])) | ((first | apply wm_done | apply wt_done | apply wg_run | refine fk ?_ ?_) <;> (simp only [go_sem])))
  (refine hR _ (rat [] (hK := ⟨rfl, rfl⟩)))
theorem iOwn (e : E) (h : e.wf = true) : AFn Try.prog 70 [.agg (teC e.tm)] (.agg (teC e.tm)) := by
  have hm := iMapped 137 id (fun _ h => h) (fun x _ => iOwn1 x.tm) e h
  rw [E.mapE_id] at hm
  refine fn_in ?_; refine acl_in Try.func70 rfl isfn_70 (Nat.le_of_ble_eq_true rfl) (fun R hR => ?_); rw [Try.results70] at hR; refine wg_run ?_; (simp only [Try.f70, go_sem])
  repeat' (first | (first | (((first | apply sp1 | apply sp2 | apply sp3 | apply sp4 | apply sp5 | apply sp6 | apply sp7) <;> intro hb) <;> (simp only [go_sem, hb])) | ((first | apply wm_done | apply wt_done | apply wg_run | refine fk ?_ ?_) <;> (simp only [go_sem]))) | (first | refine cdq ?_ (hc := hm) | refine cmq ?_ (hc := hm) | refine ctq ?_ (hc := hm)); (simp only [go_sem]))
  (refine hR _ (rat [] (hK := ⟨rfl, rfl⟩)))
end Go.Proofs.Ytfgjiamolknicaa
/- The reference's draws of terms, on shadows. -/
namespace Go.Proofs.Grad
def bsOf (l : List UInt8) : ByteArray := ⟨l.toArray⟩
def nms (l : List UInt8) : Prop := ∀ b ∈ l, nmB b = true
theorem bsOf_size (l : List UInt8) : (bsOf l).size = l.length := by simp [bsOf, ByteArray.size]
theorem bsOf_extract (l : List UInt8) (i j : Nat) : (bsOf l).extract i j = bsOf ((l.take j).drop i) := by
  refine ByteArray.ext ?_
  rw [ByteArray.data_extract]
  simp only [bsOf, List.extract_toArray, List.extract_eq_take_drop, List.drop_take]
theorem bsOf_append (l m : List UInt8) : bsOf l ++ bsOf m = bsOf (l ++ m) := by
  refine bytes_ext ?_
  rw [Go.ByteArray.toList_eq, Go.ByteArray.toList_eq]
  simp [bsOf]
theorem bsOf_one (l : List UInt8) (k : Nat) (h : k < l.length) : (bsOf l).extract k (k + 1) = nm l[k] := by
  rw [bsOf_extract]
  have : (l.take (k + 1)).drop k = [l[k]] := by
    rw [List.take_succ_eq_append_getElem h, List.drop_append_of_le_length (by simp; omega), List.drop_eq_nil_of_le (by simp; omega)]; rfl
  rw [this]; rfl
theorem nms_take {l : List UInt8} (h : nms l) (k : Nat) : nms (l.take k) := fun b hb => h b (List.mem_of_mem_take hb)
theorem nms_drop {l : List UInt8} (h : nms l) (k : Nat) : nms (l.drop k) := fun b hb => h b (List.mem_of_mem_drop hb)
theorem nms_append {l m : List UInt8} (h : nms l) (h2 : nms m) : nms (l ++ m) := fun b hb => (List.mem_append.1 hb).elim (h b) (h2 b)
structure AddF (l : List UInt8) (y : UInt8) (k : Nat) : Prop where
  hx1 : (bsOf l).extract 0 k = bsOf (l.take k)
  hx2 : (bsOf l).extract k (bsOf l).size = bsOf (l.drop k)
  hap : bsOf (l.take k) ++ nm y = bsOf (l.take k ++ [y])
  hap2 : bsOf (l.take k ++ [y]) ++ bsOf (l.drop k) = bsOf (l.take k ++ [y] ++ l.drop k)
  d6 : (bsOf (l.take k)).size + (nm y).size < 4611686018427387904
  d7 : (bsOf (l.take k ++ [y])).size + (bsOf (l.drop k)).size < 4611686018427387904
  d5 : decide (k ≤ (bsOf l).size) = true
  d8 : decide (0 ≤ k) = true
  hm1 : nms (l.take k ++ [y] ++ l.drop k)
  hm2 : (l.take k ++ [y] ++ l.drop k).length ≤ l.length + 1
theorem addF {l : List UInt8} {y : UInt8} {k : Nat} (hl : l.length < 1000000) (hn : nms l) (hy : nmB y = true) (hk : k ≤ l.length) : AddF l y k := by
  have hsz := bsOf_size l
  have hx1 : (bsOf l).extract 0 k = bsOf (l.take k) := by rw [bsOf_extract]; rfl
  have hx2 : (bsOf l).extract k (bsOf l).size = bsOf (l.drop k) := by rw [bsOf_extract, hsz, List.take_length]
  have hap : bsOf (l.take k) ++ nm y = bsOf (l.take k ++ [y]) := bsOf_append _ [y]
  have hap2 : bsOf (l.take k ++ [y]) ++ bsOf (l.drop k) = bsOf (l.take k ++ [y] ++ l.drop k) := bsOf_append _ _
  have d6 : (bsOf (l.take k)).size + (nm y).size < 4611686018427387904 := by rw [bsOf_size, nm_size]; simp; omega
  have d7 : (bsOf (l.take k ++ [y])).size + (bsOf (l.drop k)).size < 4611686018427387904 := by rw [bsOf_size, bsOf_size]; simp; omega
  have d5 : decide (k ≤ (bsOf l).size) = true := by rw [hsz]; simp; omega
  have d8 : decide (0 ≤ k) = true := by simp
  have hm1 : nms (l.take k ++ [y] ++ l.drop k) := nms_append (nms_append (nms_take hn k) (by intro b hb; simp at hb; subst hb; exact hy)) (nms_drop hn k)
  have hm2 : (l.take k ++ [y] ++ l.drop k).length ≤ l.length + 1 := by simp; omega
  exact ⟨hx1, hx2, hap, hap2, d6, d7, d5, d8, hm1, hm2⟩
end Go.Proofs.Grad
namespace Go.Proofs.Sh
open Go.RowKit
theorem addOk_of {x y : ByteArray} (h : x.size + y.size < 4611686018427387904) : addOk x y = true := Nat.ble_eq_true_of_le (by omega)
end Go.Proofs.Sh
namespace Go.Proofs.Ytfgjiamolknicaa
open Go.RowKit Go.Proofs.Sh Go.Proofs.Grad
set_option maxRecDepth 100000
set_option maxHeartbeats 8000000
/-- a draw: of a term without casts, at a cost of at most c, of a size of at most n -/
def DrawsE (bs : List Int) (p c n : Nat) (r : AV) (H' : List Blk) : Prop := ∃ (e : E) (p' : Nat), r = .agg (teC e.tm) ∧ e.wf = true ∧ e.noC = true ∧ e.tm.size ≤ n ∧ p' ≤ p + c ∧ H' = [(⟨2, 106, .mut, [[.sl (byR bs), .sc (.int .i64 ((p' : Nat) : Int))]]⟩ : Blk)]
theorem DrawsE.mono {bs : List Int} {p c n c' n' : Nat} {r : AV} {H' : List Blk} (h : DrawsE bs p c n r H') (hc : c ≤ c') (hn : n ≤ n') : DrawsE bs p c' n' r H' := by
  obtain ⟨x, p', h1, h2, h3, h4, h5, h6⟩ := h
  exact ⟨x, p', h1, h2, h3, by omega, by omega, h6⟩
end Go.Proofs.Ytfgjiamolknicaa
/- Whether a byte stands in a text: the library's own function, as a contract on shadows. -/
namespace Go.Proofs.Grad
theorem indexByte_has (l : List UInt8) (y : UInt8) : decide (0 ≤ Go.Lib.indexByte l y) = l.contains y := by
  have h1 := Go.Lib.indexByte_ge
  induction l with
  | nil => rfl
  | cons b l ih =>
    rw [Go.Lib.indexByte, List.contains_cons]
    have := h1 l y
    cases e : (b == y) with
    | true => rw [show (y == b) = true from by rw [eq_of_beq e]; exact beq_self_eq_true _]; simp
    | false =>
      have e2 : (y == b) = false := by
        cases e2 : (y == b) with
        | false => rfl
        | true => rw [eq_of_beq e2, beq_self_eq_true] at e; cases e
      rw [e2, Bool.false_or, ← ih]
      by_cases e3 : Go.Lib.indexByte l y = -1
      · simp [e3]
      · have e4 : (Go.Lib.indexByte l y == -1) = false := by simpa using e3
        rw [e4]
        simp only [Bool.false_eq_true, if_false]
        rw [decide_eq_decide]; omega
end Go.Proofs.Grad
namespace Go.Proofs.Ytfgjiamolknicaa
open Go.RowKit Go.Proofs.Sh Go.Proofs.Grad
set_option maxRecDepth 100000
set_option maxHeartbeats 2000000
theorem sctByte (s : ByteArray) (c : Int) (w : World) :
    Calls Try.prog 218 #[.string s, .int .u8 c] w fun e w' => e = .returned (.int .i64 (Lib.indexByte s.data.toList c.toNat.toUInt8)) ∧ w' = w := by
  go_enter Try.func218, Try.ntmps218
  go_wp2
  rw [run_callFunc_extern Try.func223 (by kernel_rfl) (by kernel_rfl) (by kernel_rfl) (e := Extern.BytealgIndexByte.indexByte) (by kernel_rfl), Lib.run_indexByteString]
  simp only [Result.andThen]
  rw [Oper.upon_value]
  go_wp2
  go_ret
  exact ⟨rfl, rfl⟩
theorem sctIndex0 (s : ByteArray) (c : UInt8) (w : World) :
    Calls Try.prog 214 #[.string s, .string ⟨#[c]⟩] w fun e w' => e = .returned (.int .i64 (Lib.indexByte s.data.toList c)) ∧ w' = w := by
  go_enter Try.func214, Try.ntmps214
  go_wp2_with (go_at_call 218; refine (sctByte _ _ _).mono ?_; rintro e w' ⟨rfl, rfl⟩)
  · have h : ([c] == s.toList) = true := by assumption
    go_ret
    refine ⟨?_, rfl⟩
    have e : s.data.toList = [c] := by rw [← Lib.toList_data]; exact (beq_iff_eq.1 h).symm
    rw [e]
    simp [Lib.indexByte]
  · go_ret
    exact ⟨rfl, rfl⟩
theorem sctIndex (s : ByteArray) (c : UInt8) (w : World) :
    Calls Try.prog 200 #[.string s, .string ⟨#[c]⟩] w fun e w' => e = .returned (.int .i64 (Lib.indexByte s.data.toList c)) ∧ w' = w := by
  go_enter Try.func200, Try.ntmps200
  go_wp2_with (go_at_call 214; refine (sctIndex0 _ _ _).mono ?_; rintro e w' ⟨rfl, rfl⟩)
  go_ret
  exact ⟨rfl, rfl⟩
theorem sctContains (s : ByteArray) (c : UInt8) (w : World) :
    Calls Try.prog 169 #[.string s, .string ⟨#[c]⟩] w fun e w' => e = .returned (.bool (decide (0 ≤ Lib.indexByte s.data.toList c))) ∧ w' = w := by
  go_enter Try.func169, Try.ntmps169
  go_wp2_with (go_at_call 200; refine (sctIndex _ _ _).mono ?_; rintro e w' ⟨rfl, rfl⟩)
  go_ret
  exact ⟨rfl, rfl⟩
theorem iContains (l : List UInt8) (y : UInt8) : AFn Try.prog 169 [.one (.sc (.string (bsOf l))), .one (.sc (.string (nm y)))] (.one (.sc (.bool (l.contains y)))) := by
  refine fn_in ⟨⟨isfn_169, fun X μ w vs hS hr => ?_⟩⟩
  simp only [AV.repl, AV.rep, C.rep] at hr
  obtain ⟨u, us, e1, ⟨rfl, -⟩, u2, us2, rfl, ⟨rfl, -⟩, rfl⟩ := hr
  obtain rfl : vs = #[.string (bsOf l), .string (nm y)] := by rw [← Array.toList_inj]; exact e1
  refine (sctContains (bsOf l) y w).mono fun e w' ⟨he, hw⟩ => ?_
  subst hw
  rw [show (bsOf l).data.toList = l from rfl, indexByte_has] at he
  exact ⟨.one (.sc (.bool (l.contains y))), [], μ, _, he, ⟨rfl, rfl⟩, hS, Stp.refl _ _ _, by simp only [AV.rep, C.rep]; first | exact ⟨trivial, trivial⟩ | exact ⟨trivial, rfl⟩ | simp⟩
end Go.Proofs.Ytfgjiamolknicaa
/- Steps of terms with casts. No program, no world. -/
namespace Go.Proofs.Grad
/-- v in place of x -/
def E.subst : E → UInt8 → E → E
  | .var y, x, v => match y == x with | true => v | false => .var y
  | .lam y t a, x, v => match y == x with | true => .lam y t a | false => .lam y t (a.subst x v)
  | .num n, x, v => .num n
  | .tru, x, v => .tru
  | .fls, x, v => .fls
  | .app a b, x, v => .app (a.subst x v) (b.subst x v)
  | .add a b, x, v => .add (a.subst x v) (b.subst x v)
  | .less a b, x, v => .less (a.subst x v) (b.subst x v)
  | .ite a b c, x, v => .ite (a.subst x v) (b.subst x v) (c.subst x v)
  | .pair a b, x, v => .pair (a.subst x v) (b.subst x v)
  | .fst a, x, v => .fst (a.subst x v)
  | .snd a, x, v => .snd (a.subst x v)
  | .asc t a, x, v => .asc t (a.subst x v)
  | .cast s t l a, x, v => .cast s t l (a.subst x v)
def T.isFn : T → Bool | .fn _ _ => true | _ => false
def T.isPr : T → Bool | .pr _ _ => true | _ => false
/-- a ground type -/
def T.isG : T → Bool | .any => false | .fn .any .any => true | .fn _ _ => false | .pr .any .any => true | .pr _ _ => false | _ => true
def proxyT (s t : T) : Bool := (s.isFn && t.isFn) || (s.isPr && t.isPr)
def injT (s t : T) : Bool := (t.ty.kind == 1) && s.isG
def E.val : E → Bool
  | .num _ | .tru | .fls | .lam _ _ _ => true
  | .pair a b => a.val && b.val
  | .cast s t _ a => (proxyT s t || injT s t) && a.val
  | _ => false
/-- what a step makes -/
inductive SR where
  | took (e : E) | blame (l : Int) | stuck
def SR.code : SR → Int | .took _ => 1 | .blame _ => 2 | .stuck => 3
def SR.lab : SR → Int | .blame l => l | _ => 0
def SR.map (f : E → E) : SR → SR | .took e => .took (f e) | .blame l => .blame l | .stuck => .stuck
def ruleApp : E → E → SR
  | .lam x _ b, v => .took (b.subst x v)
  | .cast (.fn s1 s2) (.fn t1 t2) l f, v => .took (.cast s2 t2 l (.app f (.cast t1 s1 (-l) v)))
  | _, _ => .stuck
def ruleAdd : E → E → SR
  | .num n, .num m => .took (.num ((n + m).tmod 1000))
  | _, _ => .stuck
def ruleLess : E → E → SR
  | .num n, .num m => match decide (n < m) with | true => .took .tru | false => .took .fls
  | _, _ => .stuck
def ruleIte : E → E → E → SR
  | .tru, b, _ => .took b
  | .fls, _, c => .took c
  | _, _, _ => .stuck
def ruleFst : E → SR
  | .pair a _ => .took a
  | .cast (.pr s1 _) (.pr t1 _) l v => .took (.cast s1 t1 l (.fst v))
  | _ => .stuck
def ruleSnd : E → SR
  | .pair _ b => .took b
  | .cast (.pr _ s2) (.pr _ t2) l v => .took (.cast s2 t2 l (.snd v))
  | _ => .stuck
/-- the type g, of which there is an injection below, and the type t: the same, or not -/
def ruleOut (t : T) (l : Int) : E → SR
  | .cast s' t' _ w => match injT s' t' with | true => (match s'.ty.kind == t.ty.kind with | true => .took w | false => .blame l) | false => .stuck
  | _ => .stuck
def ruleCast (s t : T) (l : Int) (v : E) : SR :=
  match s.ty.kind == t.ty.kind with
  | true => .took v
  | false => match t.ty.kind == 1 with
    | true => .took (.cast s.ground .any l (.cast s s.ground l v))
    | false => match t.isG with
      | false => .took (.cast t.ground t l (.cast s t.ground l v))
      | true => ruleOut t l v
/-- a step of a term with casts that is no value -/
def E.step : E → SR
  | .app a b => match a.val with | false => a.step.map (.app · b) | true => (match b.val with | false => b.step.map (.app a ·) | true => ruleApp a b)
  | .add a b => match a.val with | false => a.step.map (.add · b) | true => (match b.val with | false => b.step.map (.add a ·) | true => ruleAdd a b)
  | .less a b => match a.val with | false => a.step.map (.less · b) | true => (match b.val with | false => b.step.map (.less a ·) | true => ruleLess a b)
  | .ite a b c => match a.val with | false => a.step.map (.ite · b c) | true => ruleIte a b c
  | .pair a b => match a.val with | false => a.step.map (.pair · b) | true => (match b.val with | false => b.step.map (.pair a ·) | true => .stuck)
  | .fst a => match a.val with | false => a.step.map .fst | true => ruleFst a
  | .snd a => match a.val with | false => a.step.map .snd | true => ruleSnd a
  | .cast s t l a => match a.val with | false => a.step.map (.cast s t l) | true => ruleCast s t l a
  | _ => .stuck
/-! what steps keep -/
theorem E.subst_wf {x : UInt8} {v : E} (hv : v.wf = true) : ∀ e : E, e.wf = true → (e.subst x v).wf = true := by
  intro e
  induction e with
  | var y => intro h; simp only [E.subst]; split <;> assumption
  | lam y t a ih => intro h; simp only [E.subst]; split <;> simp_all [E.wf]
  | _ => intro h; simp_all [E.subst, E.wf]
def SR.ok : SR → Bool | .took e => e.wf && e.noA | .blame l => Grad.lab l | .stuck => true
theorem cons_kind {s t : T} (h1 : (s.ty.kind == t.ty.kind) = false) (h2 : (t.ty.kind == 1) = false) (hc : s.cons t = true) : s = .any := by
  cases s <;> cases t <;> simp_all [T.ty, Ty.kind, T.cons]
/-- the zero term -/
def tm0 : Tm := .mk 0 ByteArray.empty 0 noTy noTy 0 []
def SR.tm : SR → Tm | .took e => e.tm | _ => tm0
end Go.Proofs.Grad
