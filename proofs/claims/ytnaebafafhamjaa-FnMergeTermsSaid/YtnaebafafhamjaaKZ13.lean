/- Texts of the proof, one behind another. -/
import Derived.Test.YtnaebafafhamjaaKZ10
import Derived.Test.YtnaebafafhamjaaKZ12
set_option linter.unusedSimpArgs false
set_option linter.unusedVariables false
/- Terms: terms mapped by a function, on shadows. -/
namespace Go.Proofs.Grad
def E.mapE (φ : E → E) : E → E
  | .var x => φ (.var x)
  | .num n => φ (.num n)
  | .tru => φ .tru
  | .fls => φ .fls
  | .lam x t a => φ (.lam x t (a.mapE φ))
  | .app a b => φ (.app (a.mapE φ) (b.mapE φ))
  | .add a b => φ (.add (a.mapE φ) (b.mapE φ))
  | .less a b => φ (.less (a.mapE φ) (b.mapE φ))
  | .ite a b c => φ (.ite (a.mapE φ) (b.mapE φ) (c.mapE φ))
  | .pair a b => φ (.pair (a.mapE φ) (b.mapE φ))
  | .fst a => φ (.fst (a.mapE φ))
  | .snd a => φ (.snd (a.mapE φ))
  | .asc t a => φ (.asc t (a.mapE φ))
  | .cast s t l a => φ (.cast s t l (a.mapE φ))
theorem E.mapE_wf {φ : E → E} (h : ∀ x : E, x.wf = true → (φ x).wf = true) (e : E) : e.wf = true → (e.mapE φ).wf = true := by
  induction e with
  | var _ | num _ | tru | fls => intro hw; exact h _ hw
  | lam _ _ a ih => intro hw; simp only [E.wf, Bool.and_eq_true] at hw; refine h _ ?_; simp only [E.wf, Bool.and_eq_true]; exact ⟨hw.1, hw.2.1, ih hw.2.2⟩
  | app a b iha ihb | add a b iha ihb | less a b iha ihb | pair a b iha ihb =>
    intro hw; simp only [E.wf, Bool.and_eq_true] at hw; refine h _ ?_; simp only [E.wf, Bool.and_eq_true]; exact ⟨iha hw.1, ihb hw.2⟩
  | ite a b c iha ihb ihc =>
    intro hw; simp only [E.wf, Bool.and_eq_true] at hw; refine h _ ?_; simp only [E.wf, Bool.and_eq_true]; exact ⟨iha hw.1, ihb hw.2.1, ihc hw.2.2⟩
  | fst a ih | snd a ih => intro hw; refine h _ ?_; exact ih hw
  | cast s t l a ih => intro hw; simp only [E.wf, Bool.and_eq_true] at hw; refine h _ ?_; simp only [E.wf, Bool.and_eq_true]; exact ⟨hw.1, hw.2.1, hw.2.2.1, ih hw.2.2.2⟩
  | _ => rename_i t a ih; intro hw; simp only [E.wf, Bool.and_eq_true] at hw; refine h _ ?_; simp only [E.wf, Bool.and_eq_true]; exact ⟨hw.1, ih hw.2⟩
theorem E.mapE_id (e : E) : e.mapE id = e := by
  induction e <;> simp [E.mapE, *]
theorem T.ty_small {t : T} (h : t.depth ≤ 4) : t.ty.size < 1000 := by
  have : ∀ (x : T) (d : Nat), x.depth ≤ d → d ≤ 4 → x.size < 2 ^ d := by
    intro x
    induction x with
    | any | int | bool => intro d h1 h2; simp only [T.depth, T.size] at *; exact Nat.one_lt_two_pow (by omega)
    | fn a b iha ihb | pr a b iha ihb =>
      intro d h1 h2
      simp only [T.depth, T.size] at *
      obtain ⟨d, rfl⟩ : ∃ e, d = e + 1 := ⟨d - 1, by omega⟩
      have := iha d (by omega) (by omega); have := ihb d (by omega) (by omega)
      rw [Nat.pow_succ]; omega
  have := this t 4 h (Nat.le_refl _)
  rw [T.ty_size]; omega
end Go.Proofs.Grad
namespace Go.Proofs.Ytnaebafafhamjaa
open Go.RowKit Go.Proofs.Sh Go.Proofs.Grad
set_option maxRecDepth 100000
set_option maxHeartbeats 8000000
theorem iOwnNo : AFn Try.prog 92 [.agg (tyC noTy)] (.agg (tyC noTy)) := iOwnTy 1000 (by omega) noTy (by simp [noTy, Ty.size, Ty.sizes])
theorem iOwnT {t : T} (h : t.depth ≤ 4) : AFn Try.prog 92 [.agg (tyC t.ty)] (.agg (tyC t.ty)) := iOwnTy 1000 (by omega) t.ty (T.ty_small h)
theorem iMapped (g : FuncId) (φ : E → E) (hφ : ∀ x : E, x.wf = true → (φ x).wf = true) (hg : ∀ x : E, x.wf = true → AFn Try.prog g [.agg (teC x.tm)] (.agg (teC (φ x).tm))) (e : E) (h : e.wf = true) :
    AFn Try.prog 65 [.agg (teC e.tm), .one (.fn g [])] (.agg (teC (e.mapE φ).tm)) := by
  have ho := iOwnNo
  induction e with
  | var _ | num _ | tru | fls =>
    have hg := hg _ h
    simp only [E.mapE]
    rw [teC_eq] at hg
    simp only [E.tm, nd] at hg ⊢
    refine fn_in ?_; refine acl_in Try.func65 rfl isfn_65 (Nat.le_of_ble_eq_true rfl) (fun R hR => ?_); rw [Try.results65] at hR; refine wg_run ?_; (simp only [Try.f65, go_sem])
    repeat' (first | (first | (((first | apply sp1 | apply sp2 | apply sp3 | apply sp4 | apply sp5 | apply sp6 | apply sp7) <;> intro hb) <;> (simp only [go_sem, hb])) | ((first | apply wm_done | apply wt_done | apply wg_run | refine fk ?_ ?_) <;> (simp only [go_sem]))) | (first | (refine wl_next (wg_run ?_); (simp only [go_sem])) | refine wd_rounds 6 ?_) | (first | refine cdq ?_ (hc := ho) | refine cmq ?_ (hc := ho) | refine ctq ?_ (hc := ho)); (simp only [go_sem]) | ((first | refine mxq6 [] ?_ | refine mxq5 [] ?_ | refine mxq4 [] ?_ | refine mxq3 [] ?_ | refine mxq2 [] ?_ | refine mxq1 [] ?_ | refine mxq0 [] ?_ | fail); (simp only [go_sem])) | (first | refine cdq ?_ (hc := hg) | refine cmq ?_ (hc := hg) | refine ctq ?_ (hc := hg)); (simp only [go_sem]))
    (refine hR _ (rat [] (hK := ⟨?_, rfl⟩)))
    rfl
  | app a b iha ihb | add a b iha ihb | less a b iha ihb | pair a b iha ihb =>
    simp only [E.wf, Bool.and_eq_true] at h
    have iha := iha h.1
    have ihb := ihb h.2
    have wa := E.mapE_wf hφ a h.1
    have wb := E.mapE_wf hφ b h.2
    have g1 := hg (.app (a.mapE φ) (b.mapE φ)) (by simp only [E.wf, Bool.and_eq_true]; exact ⟨wa, wb⟩)
    have g2 := hg (.add (a.mapE φ) (b.mapE φ)) (by simp only [E.wf, Bool.and_eq_true]; exact ⟨wa, wb⟩)
    have g3 := hg (.less (a.mapE φ) (b.mapE φ)) (by simp only [E.wf, Bool.and_eq_true]; exact ⟨wa, wb⟩)
    have g4 := hg (.pair (a.mapE φ) (b.mapE φ)) (by simp only [E.wf, Bool.and_eq_true]; exact ⟨wa, wb⟩)
    clear hg
    simp only [E.mapE]
    rw [teC_eq] at g1 g2 g3 g4
    simp only [E.tm, nd, go_sem] at g1 g2 g3 g4 ⊢
    refine fn_in ?_; refine acl_in Try.func65 rfl isfn_65 (Nat.le_of_ble_eq_true rfl) (fun R hR => ?_); rw [Try.results65] at hR; refine wg_run ?_; (simp only [Try.f65, go_sem])
    repeat' (first | (first | (((first | apply sp1 | apply sp2 | apply sp3 | apply sp4 | apply sp5 | apply sp6 | apply sp7) <;> intro hb) <;> (simp only [go_sem, hb])) | ((first | apply wm_done | apply wt_done | apply wg_run | refine fk ?_ ?_) <;> (simp only [go_sem]))) | (first | (refine wl_next (wg_run ?_); (simp only [go_sem])) | refine wd_rounds 6 ?_) | (first | refine cdq ?_ (hc := iha) | refine cmq ?_ (hc := iha) | refine ctq ?_ (hc := iha)); (simp only [go_sem]) | (first | refine cdq ?_ (hc := ihb) | refine cmq ?_ (hc := ihb) | refine ctq ?_ (hc := ihb)); (simp only [go_sem]) | (first | refine cdq ?_ (hc := ho) | refine cmq ?_ (hc := ho) | refine ctq ?_ (hc := ho)); (simp only [go_sem]) | ((first | refine mxq6 [] ?_ | refine mxq5 [] ?_ | refine mxq4 [] ?_ | refine mxq3 [] ?_ | refine mxq2 [] ?_ | refine mxq1 [] ?_ | refine mxq0 [] ?_ | fail); (simp only [go_sem])) | (first | refine cdq ?_ (hc := g1) | refine cmq ?_ (hc := g1) | refine ctq ?_ (hc := g1)); (simp only [go_sem]) | (first | refine cdq ?_ (hc := g2) | refine cmq ?_ (hc := g2) | refine ctq ?_ (hc := g2)); (simp only [go_sem]) | (first | refine cdq ?_ (hc := g3) | refine cmq ?_ (hc := g3) | refine ctq ?_ (hc := g3)); (simp only [go_sem]) | (first | refine cdq ?_ (hc := g4) | refine cmq ?_ (hc := g4) | refine ctq ?_ (hc := g4)); (simp only [go_sem]))
    (refine hR _ (rat [] (hK := ⟨?_, rfl⟩)))
    rfl
  | ite a b c iha ihb ihc =>
    simp only [E.wf, Bool.and_eq_true] at h
    have iha := iha h.1
    have ihb := ihb h.2.1
    have ihc := ihc h.2.2
    have g1 := hg (.ite (a.mapE φ) (b.mapE φ) (c.mapE φ)) (by simp only [E.wf, Bool.and_eq_true]; exact ⟨E.mapE_wf hφ a h.1, E.mapE_wf hφ b h.2.1, E.mapE_wf hφ c h.2.2⟩)
    clear hg
    simp only [E.mapE]
    rw [teC_eq] at g1
    simp only [E.tm, nd, go_sem] at g1 ⊢
    refine fn_in ?_; refine acl_in Try.func65 rfl isfn_65 (Nat.le_of_ble_eq_true rfl) (fun R hR => ?_); rw [Try.results65] at hR; refine wg_run ?_; (simp only [Try.f65, go_sem])
    repeat' (first | (first | (((first | apply sp1 | apply sp2 | apply sp3 | apply sp4 | apply sp5 | apply sp6 | apply sp7) <;> intro hb) <;> (simp only [go_sem, hb])) | ((first | apply wm_done | apply wt_done | apply wg_run | refine fk ?_ ?_) <;> (simp only [go_sem]))) | (first | (refine wl_next (wg_run ?_); (simp only [go_sem])) | refine wd_rounds 6 ?_) | (first | refine cdq ?_ (hc := iha) | refine cmq ?_ (hc := iha) | refine ctq ?_ (hc := iha)); (simp only [go_sem]) | (first | refine cdq ?_ (hc := ihb) | refine cmq ?_ (hc := ihb) | refine ctq ?_ (hc := ihb)); (simp only [go_sem]) | (first | refine cdq ?_ (hc := ihc) | refine cmq ?_ (hc := ihc) | refine ctq ?_ (hc := ihc)); (simp only [go_sem]) | (first | refine cdq ?_ (hc := ho) | refine cmq ?_ (hc := ho) | refine ctq ?_ (hc := ho)); (simp only [go_sem]) | ((first | refine mxq6 [] ?_ | refine mxq5 [] ?_ | refine mxq4 [] ?_ | refine mxq3 [] ?_ | refine mxq2 [] ?_ | refine mxq1 [] ?_ | refine mxq0 [] ?_ | fail); (simp only [go_sem])) | (first | refine cdq ?_ (hc := g1) | refine cmq ?_ (hc := g1) | refine ctq ?_ (hc := g1)); (simp only [go_sem]))
    (refine hR _ (rat [] (hK := ⟨?_, rfl⟩)))
    rfl
  | lam x t a ih =>
    simp only [E.wf, Bool.and_eq_true, decide_eq_true_eq] at h
    have ih := ih h.2.2
    have hot := iOwnT h.2.1
    have g1 := hg (.lam x t (a.mapE φ)) (by simp only [E.wf, Bool.and_eq_true, decide_eq_true_eq]; exact ⟨h.1, h.2.1, E.mapE_wf hφ a h.2.2⟩)
    clear hg
    simp only [E.mapE]
    rw [teC_eq] at g1
    simp only [E.tm, nd, go_sem] at g1 ⊢
    refine fn_in ?_; refine acl_in Try.func65 rfl isfn_65 (Nat.le_of_ble_eq_true rfl) (fun R hR => ?_); rw [Try.results65] at hR; refine wg_run ?_; (simp only [Try.f65, go_sem])
    repeat' (first | (first | (((first | apply sp1 | apply sp2 | apply sp3 | apply sp4 | apply sp5 | apply sp6 | apply sp7) <;> intro hb) <;> (simp only [go_sem, hb])) | ((first | apply wm_done | apply wt_done | apply wg_run | refine fk ?_ ?_) <;> (simp only [go_sem]))) | (first | (refine wl_next (wg_run ?_); (simp only [go_sem])) | refine wd_rounds 6 ?_) | (first | refine cdq ?_ (hc := ih) | refine cmq ?_ (hc := ih) | refine ctq ?_ (hc := ih)); (simp only [go_sem]) | (first | refine cdq ?_ (hc := hot) | refine cmq ?_ (hc := hot) | refine ctq ?_ (hc := hot)); (simp only [go_sem]) | (first | refine cdq ?_ (hc := ho) | refine cmq ?_ (hc := ho) | refine ctq ?_ (hc := ho)); (simp only [go_sem]) | ((first | refine mxq6 [] ?_ | refine mxq5 [] ?_ | refine mxq4 [] ?_ | refine mxq3 [] ?_ | refine mxq2 [] ?_ | refine mxq1 [] ?_ | refine mxq0 [] ?_ | fail); (simp only [go_sem])) | (first | refine cdq ?_ (hc := g1) | refine cmq ?_ (hc := g1) | refine ctq ?_ (hc := g1)); (simp only [go_sem]))
    (refine hR _ (rat [] (hK := ⟨?_, rfl⟩)))
    rfl
  | fst a ih | snd a ih =>
    simp only [E.wf] at h
    have ih := ih h
    have g1 := hg (.fst (a.mapE φ)) (E.mapE_wf hφ a h)
    have g2 := hg (.snd (a.mapE φ)) (E.mapE_wf hφ a h)
    clear hg
    simp only [E.mapE]
    rw [teC_eq] at g1 g2
    simp only [E.tm, nd, go_sem] at g1 g2 ⊢
    refine fn_in ?_; refine acl_in Try.func65 rfl isfn_65 (Nat.le_of_ble_eq_true rfl) (fun R hR => ?_); rw [Try.results65] at hR; refine wg_run ?_; (simp only [Try.f65, go_sem])
    repeat' (first | (first | (((first | apply sp1 | apply sp2 | apply sp3 | apply sp4 | apply sp5 | apply sp6 | apply sp7) <;> intro hb) <;> (simp only [go_sem, hb])) | ((first | apply wm_done | apply wt_done | apply wg_run | refine fk ?_ ?_) <;> (simp only [go_sem]))) | (first | (refine wl_next (wg_run ?_); (simp only [go_sem])) | refine wd_rounds 6 ?_) | (first | refine cdq ?_ (hc := ih) | refine cmq ?_ (hc := ih) | refine ctq ?_ (hc := ih)); (simp only [go_sem]) | (first | refine cdq ?_ (hc := ho) | refine cmq ?_ (hc := ho) | refine ctq ?_ (hc := ho)); (simp only [go_sem]) | ((first | refine mxq6 [] ?_ | refine mxq5 [] ?_ | refine mxq4 [] ?_ | refine mxq3 [] ?_ | refine mxq2 [] ?_ | refine mxq1 [] ?_ | refine mxq0 [] ?_ | fail); (simp only [go_sem])) | (first | refine cdq ?_ (hc := g1) | refine cmq ?_ (hc := g1) | refine ctq ?_ (hc := g1)); (simp only [go_sem]) | (first | refine cdq ?_ (hc := g2) | refine cmq ?_ (hc := g2) | refine ctq ?_ (hc := g2)); (simp only [go_sem]))
    (refine hR _ (rat [] (hK := ⟨?_, rfl⟩)))
    rfl
  | cast s t l a ih =>
    simp only [E.wf, Bool.and_eq_true, decide_eq_true_eq] at h
    have ih := ih h.2.2.2
    have hos := iOwnT h.1.1
    have hot := iOwnT h.1.2
    have g1 := hg (.cast s t l (a.mapE φ)) (by simp only [E.wf, Bool.and_eq_true, decide_eq_true_eq]; exact ⟨h.1, h.2.1, h.2.2.1, E.mapE_wf hφ a h.2.2.2⟩)
    clear hg
    simp only [E.mapE]
    rw [teC_eq] at g1
    simp only [E.tm, nd, go_sem] at g1 ⊢
    refine fn_in ?_; refine acl_in Try.func65 rfl isfn_65 (Nat.le_of_ble_eq_true rfl) (fun R hR => ?_); rw [Try.results65] at hR; refine wg_run ?_; (simp only [Try.f65, go_sem])
    repeat' (first | (first | (((first | apply sp1 | apply sp2 | apply sp3 | apply sp4 | apply sp5 | apply sp6 | apply sp7) <;> intro hb) <;> (simp only [go_sem, hb])) | ((first | apply wm_done | apply wt_done | apply wg_run | refine fk ?_ ?_) <;> (simp only [go_sem]))) | (first | (refine wl_next (wg_run ?_); (simp only [go_sem])) | refine wd_rounds 6 ?_) | (first | refine cdq ?_ (hc := ih) | refine cmq ?_ (hc := ih) | refine ctq ?_ (hc := ih)); (simp only [go_sem]) | (first | refine cdq ?_ (hc := hot) | refine cmq ?_ (hc := hot) | refine ctq ?_ (hc := hot)); (simp only [go_sem]) | (first | refine cdq ?_ (hc := hos) | refine cmq ?_ (hc := hos) | refine ctq ?_ (hc := hos)); (simp only [go_sem]) | ((first | refine mxq6 [] ?_ | refine mxq5 [] ?_ | refine mxq4 [] ?_ | refine mxq3 [] ?_ | refine mxq2 [] ?_ | refine mxq1 [] ?_ | refine mxq0 [] ?_ | fail); (simp only [go_sem])) | (first | refine cdq ?_ (hc := g1) | refine cmq ?_ (hc := g1) | refine ctq ?_ (hc := g1)); (simp only [go_sem]))
    (refine hR _ (rat [] (hK := ⟨?_, rfl⟩)))
    rfl
  | _ =>
    rename_i t a ih
    simp only [E.wf, Bool.and_eq_true, decide_eq_true_eq] at h
    have ih := ih h.2
    have hot := iOwnT h.1
    have g1 := hg (E.asc t (a.mapE φ)) (by simp only [E.wf, Bool.and_eq_true, decide_eq_true_eq]; exact ⟨h.1, E.mapE_wf hφ a h.2⟩)
    clear hg
    simp only [E.mapE]
    rw [teC_eq] at g1
    simp only [E.tm, nd, go_sem] at g1 ⊢
    refine fn_in ?_; refine acl_in Try.func65 rfl isfn_65 (Nat.le_of_ble_eq_true rfl) (fun R hR => ?_); rw [Try.results65] at hR; refine wg_run ?_; (simp only [Try.f65, go_sem])
    repeat' (first | (first | (((first | apply sp1 | apply sp2 | apply sp3 | apply sp4 | apply sp5 | apply sp6 | apply sp7) <;> intro hb) <;> (simp only [go_sem, hb])) | ((first | apply wm_done | apply wt_done | apply wg_run | refine fk ?_ ?_) <;> (simp only [go_sem]))) | (first | (refine wl_next (wg_run ?_); (simp only [go_sem])) | refine wd_rounds 6 ?_) | (first | refine cdq ?_ (hc := ih) | refine cmq ?_ (hc := ih) | refine ctq ?_ (hc := ih)); (simp only [go_sem]) | (first | refine cdq ?_ (hc := hot) | refine cmq ?_ (hc := hot) | refine ctq ?_ (hc := hot)); (simp only [go_sem]) | (first | refine cdq ?_ (hc := ho) | refine cmq ?_ (hc := ho) | refine ctq ?_ (hc := ho)); (simp only [go_sem]) | ((first | refine mxq6 [] ?_ | refine mxq5 [] ?_ | refine mxq4 [] ?_ | refine mxq3 [] ?_ | refine mxq2 [] ?_ | refine mxq1 [] ?_ | refine mxq0 [] ?_ | fail); (simp only [go_sem])) | (first | refine cdq ?_ (hc := g1) | refine cmq ?_ (hc := g1) | refine ctq ?_ (hc := g1)); (simp only [go_sem]))
    (refine hR _ (rat [] (hK := ⟨?_, rfl⟩)))
    rfl
theorem iOwn1 (t : Tm) : AFn Try.prog 94 [.agg (teC t)] (.agg (teC t)) := by
  refine fn_in ?_; refine acl_in Try.func94 rfl isfn_94 (Nat.le_of_ble_eq_true rfl) (fun R hR => ?_); rw [Try.results94] at hR; refine wg_run ?_; (simp only [Try.f94, go_sem])
  repeat' (first | (((first | apply sp1 | apply sp2 | apply sp3 | apply sp4 | apply sp5 | apply sp6 | apply sp7) <;> intro hb) <;> (simp only [go_sem, hb])) | ((first | apply wm_done | apply wt_done | apply wg_run | refine fk ?_ ?_) <;> (simp only [go_sem])))
  (refine hR _ (rat [] (hK := ⟨rfl, rfl⟩)))
theorem iOwn (e : E) (h : e.wf = true) : AFn Try.prog 40 [.agg (teC e.tm)] (.agg (teC e.tm)) := by
  have hm := iMapped 94 id (fun _ h => h) (fun x _ => iOwn1 x.tm) e h
  rw [E.mapE_id] at hm
  refine fn_in ?_; refine acl_in Try.func40 rfl isfn_40 (Nat.le_of_ble_eq_true rfl) (fun R hR => ?_); rw [Try.results40] at hR; refine wg_run ?_; (simp only [Try.f40, go_sem])
  repeat' (first | (first | (((first | apply sp1 | apply sp2 | apply sp3 | apply sp4 | apply sp5 | apply sp6 | apply sp7) <;> intro hb) <;> (simp only [go_sem, hb])) | ((first | apply wm_done | apply wt_done | apply wg_run | refine fk ?_ ?_) <;> (simp only [go_sem]))) | (first | refine cdq ?_ (hc := hm) | refine cmq ?_ (hc := hm) | refine ctq ?_ (hc := hm)); (simp only [go_sem]))
  (refine hR _ (rat [] (hK := ⟨rfl, rfl⟩)))
end Go.Proofs.Ytnaebafafhamjaa
/- The reference's draws of terms, on shadows. -/
namespace Go.Proofs.Grad
def bsOf (l : List UInt8) : ByteArray := ⟨l.toArray⟩
def nms (l : List UInt8) : Prop := ∀ b ∈ l, nmB b = true
theorem bsOf_size (l : List UInt8) : (bsOf l).size = l.length := by simp [bsOf, ByteArray.size]
theorem bsOf_extract (l : List UInt8) (i j : Nat) : (bsOf l).extract i j = bsOf ((l.take j).drop i) := by
  refine ByteArray.ext ?_
  rw [ByteArray.data_extract]
  simp only [bsOf, List.extract_toArray, List.extract_eq_take_drop, List.drop_take]
theorem bsOf_append (l m : List UInt8) : bsOf l ++ bsOf m = bsOf (l ++ m) := by
  refine bytes_ext ?_
  rw [Go.ByteArray.toList_eq, Go.ByteArray.toList_eq]
  simp [bsOf]
theorem bsOf_one (l : List UInt8) (k : Nat) (h : k < l.length) : (bsOf l).extract k (k + 1) = nm l[k] := by
  rw [bsOf_extract]
  have : (l.take (k + 1)).drop k = [l[k]] := by
    rw [List.take_succ_eq_append_getElem h, List.drop_append_of_le_length (by simp; omega), List.drop_eq_nil_of_le (by simp; omega)]; rfl
  rw [this]; rfl
theorem nms_take {l : List UInt8} (h : nms l) (k : Nat) : nms (l.take k) := fun b hb => h b (List.mem_of_mem_take hb)
theorem nms_drop {l : List UInt8} (h : nms l) (k : Nat) : nms (l.drop k) := fun b hb => h b (List.mem_of_mem_drop hb)
theorem nms_append {l m : List UInt8} (h : nms l) (h2 : nms m) : nms (l ++ m) := fun b hb => (List.mem_append.1 hb).elim (h b) (h2 b)
structure AddF (l : List UInt8) (y : UInt8) (k : Nat) : Prop where
  hx1 : (bsOf l).extract 0 k = bsOf (l.take k)
  hx2 : (bsOf l).extract k (bsOf l).size = bsOf (l.drop k)
  hap : bsOf (l.take k) ++ nm y = bsOf (l.take k ++ [y])
  hap2 : bsOf (l.take k ++ [y]) ++ bsOf (l.drop k) = bsOf (l.take k ++ [y] ++ l.drop k)
  d6 : (bsOf (l.take k)).size + (nm y).size < 4611686018427387904
  d7 : (bsOf (l.take k ++ [y])).size + (bsOf (l.drop k)).size < 4611686018427387904
  d5 : decide (k ≤ (bsOf l).size) = true
  d8 : decide (0 ≤ k) = true
  hm1 : nms (l.take k ++ [y] ++ l.drop k)
  hm2 : (l.take k ++ [y] ++ l.drop k).length ≤ l.length + 1
theorem addF {l : List UInt8} {y : UInt8} {k : Nat} (hl : l.length < 1000000) (hn : nms l) (hy : nmB y = true) (hk : k ≤ l.length) : AddF l y k := by
  have hsz := bsOf_size l
  have hx1 : (bsOf l).extract 0 k = bsOf (l.take k) := by rw [bsOf_extract]; rfl
  have hx2 : (bsOf l).extract k (bsOf l).size = bsOf (l.drop k) := by rw [bsOf_extract, hsz, List.take_length]
  have hap : bsOf (l.take k) ++ nm y = bsOf (l.take k ++ [y]) := bsOf_append _ [y]
  have hap2 : bsOf (l.take k ++ [y]) ++ bsOf (l.drop k) = bsOf (l.take k ++ [y] ++ l.drop k) := bsOf_append _ _
  have d6 : (bsOf (l.take k)).size + (nm y).size < 4611686018427387904 := by rw [bsOf_size, nm_size]; simp; omega
  have d7 : (bsOf (l.take k ++ [y])).size + (bsOf (l.drop k)).size < 4611686018427387904 := by rw [bsOf_size, bsOf_size]; simp; omega
  have d5 : decide (k ≤ (bsOf l).size) = true := by rw [hsz]; simp; omega
  have d8 : decide (0 ≤ k) = true := by simp
  have hm1 : nms (l.take k ++ [y] ++ l.drop k) := nms_append (nms_append (nms_take hn k) (by intro b hb; simp at hb; subst hb; exact hy)) (nms_drop hn k)
  have hm2 : (l.take k ++ [y] ++ l.drop k).length ≤ l.length + 1 := by simp; omega
  exact ⟨hx1, hx2, hap, hap2, d6, d7, d5, d8, hm1, hm2⟩
end Go.Proofs.Grad
namespace Go.Proofs.Sh
open Go.RowKit
theorem addOk_of {x y : ByteArray} (h : x.size + y.size < 4611686018427387904) : addOk x y = true := Nat.ble_eq_true_of_le (by omega)
end Go.Proofs.Sh
namespace Go.Proofs.Ytnaebafafhamjaa
open Go.RowKit Go.Proofs.Sh Go.Proofs.Grad
set_option maxRecDepth 100000
set_option maxHeartbeats 8000000
/-- a draw: of a term without casts, at a cost of at most c, of a size of at most n -/
def DrawsE (bs : List Int) (p c n : Nat) (r : AV) (H' : List Blk) : Prop := ∃ (e : E) (p' : Nat), r = .agg (teC e.tm) ∧ e.wf = true ∧ e.noC = true ∧ e.tm.size ≤ n ∧ p' ≤ p + c ∧ H' = [(⟨2, 83, .mut, [[.sl (byR bs), .sc (.int .i64 ((p' : Nat) : Int))]]⟩ : Blk)]
theorem DrawsE.mono {bs : List Int} {p c n c' n' : Nat} {r : AV} {H' : List Blk} (h : DrawsE bs p c n r H') (hc : c ≤ c') (hn : n ≤ n') : DrawsE bs p c' n' r H' := by
  obtain ⟨x, p', h1, h2, h3, h4, h5, h6⟩ := h
  exact ⟨x, p', h1, h2, h3, by omega, by omega, h6⟩
theorem l2Add (l : List UInt8) (hl : l.length < 1000000) (hn : nms l) (y : UInt8) (hy : nmB y = true) : ACl Try.prog 168 [.one (.sc (.string (bsOf l))), .one (.sc (.string (nm y)))] [] (fun r H' => ∃ m : List UInt8, r = .one (.sc (.string (bsOf m))) ∧ nms m ∧ m.length ≤ l.length + 1 ∧ H' = []) := by
  have hsz := bsOf_size l
  refine acl_in Try.func168 rfl isfn_168 (Nat.le_of_ble_eq_true rfl) (fun R hR => ?_); rw [Try.results168] at hR; refine wg_run ?_; (simp only [Try.f168, go_sem])
  refine wd_for [0, 1, 4, 5] (fun k => [.one (.sc (.string (bsOf l))), .one (.sc (.string (nm y))), .one (.sc (.string ⟨#[]⟩)), .one (.sc (.int .i64 (k : Nat)))]) (fun _ => [])
    (fun k => k ≤ l.length) (fun k => l.length - k) 0 (Nat.zero_le _) (hat [] (hI := ⟨rfl, rfl⟩)) ?_
  rintro k hk G hG
  refine wg_run ?_
  have hF := addF (y := y) hl hn hy hk
  obtain ⟨hx1, hx2, hap, hap2, d6, d7, d5, d8, hm1, hm2⟩ := hF
  have d6 := addOk_of d6
  have d7 := addOk_of d7
  by_cases hk1 : k < l.length
  · have hw1 := wrap_succ hk1 (by omega)
    have d2 : decide ((k : Int) < ((bsOf l).size : Int)) = true := by rw [hsz]; simp; omega
    have d3 : decide (k + 1 ≤ (bsOf l).size) = true := by rw [hsz]; simp; omega
    have d4 : decide (k ≤ k + 1) = true := by simp
    (simp only [go_sem, d2])
    repeat' (first | (first | (simp only [go_sem, d2, hw1, d3, d4, d5, d6, d7, d8, hx1, hx2, hap, hap2]) | (((first | apply sp1 | apply sp2 | apply sp3 | apply sp4 | apply sp5 | apply sp6 | apply sp7) <;> intro hb) <;> (simp only [go_sem, hb, d2, hw1, d3, d4, d5, d6, d7, d8, hx1, hx2, hap, hap2])) | ((first | apply wm_done | apply wt_done | apply wg_run | refine fk ?_ ?_) <;> (simp only [go_sem, d2, hw1, d3, d4, d5, d6, d7, d8, hx1, hx2, hap, hap2]))) | (refine wd_mix 0 [] follows (by kernel_rfl) (by (simp only [go_sem]); first | done | rfl) ?_; (simp only [go_sem])) | fail)
    all_goals first
      | exact hG (k + 1) _ _ (by omega) (by omega) (hat [] (hI := ⟨rfl, rfl⟩))
      | exact hR _ (rat [] (hK := ⟨l, rfl, hn, by omega, rfl⟩))
      | exact hR _ (rat [] (hK := ⟨l.take k ++ [y] ++ l.drop k, rfl, hm1, hm2, rfl⟩))
  · have d2 : decide ((k : Int) < ((bsOf l).size : Int)) = false := by rw [hsz]; simp; omega
    (simp only [go_sem, d2])
    repeat' (first | (first | (simp only [go_sem, d2, d5, d6, d7, d8, hx1, hx2, hap, hap2]) | (((first | apply sp1 | apply sp2 | apply sp3 | apply sp4 | apply sp5 | apply sp6 | apply sp7) <;> intro hb) <;> (simp only [go_sem, hb, d2, d5, d6, d7, d8, hx1, hx2, hap, hap2])) | ((first | apply wm_done | apply wt_done | apply wg_run | refine fk ?_ ?_) <;> (simp only [go_sem, d2, d5, d6, d7, d8, hx1, hx2, hap, hap2]))) | (refine wd_mix 0 [] follows (by kernel_rfl) (by (simp only [go_sem]); first | done | rfl) ?_; (simp only [go_sem])) | fail)
    exact hR _ (rat [] (hK := ⟨l.take k ++ [y] ++ l.drop k, rfl, hm1, hm2, rfl⟩))
theorem l2NumS (n : Int) : AFn Try.prog 132 [.one (.sc (.int .i64 n))] (.agg (teC (E.num n).tm)) := by
  simp only [E.tm]
  refine fn_in ?_; refine acl_in Try.func132 rfl isfn_132 (Nat.le_of_ble_eq_true rfl) (fun R hR => ?_); rw [Try.results132] at hR; refine wg_run ?_; (simp only [Try.f132, go_sem])
  repeat' (first | (first | (((first | apply sp1 | apply sp2 | apply sp3 | apply sp4 | apply sp5 | apply sp6 | apply sp7) <;> intro hb) <;> (simp only [go_sem, hb])) | ((first | apply wm_done | apply wt_done | apply wg_run | refine fk ?_ ?_) <;> (simp only [go_sem]))) | fail)
  (refine hR _ (rat [] (hK := ⟨rfl, rfl⟩)))
theorem l2Atom (bs : List Int) (hB : Bs bs) (p : Nat) (hp : p < 999990000) (l : List UInt8) (hl : l.length < 1000000) (hn : nms l) : ACl Try.prog 167 [.one (.ptr 2 0 0 0), .one (.sc (.string (bsOf l)))] [(⟨2, 83, .mut, [[.sl (byR bs), .sc (.int .i64 ((p : Nat) : Int))]]⟩ : Blk)] (DrawsE bs p 4 4) := by
  have hsz := bsOf_size l
  have h1 := pick bs hB p (by omega) 4 (by omega) (by omega)
  have fin : ∀ q, q < 999995000 → ∀ z : Int, z ∈ [1, 0, 2, 5, 999, 7] → (E.num z).wf = true := by
    intro q _ z hz
    simp only [List.mem_cons, List.not_mem_nil, or_false] at hz
    rcases hz with rfl | rfl | rfl | rfl | rfl | rfl <;> decide
  by_cases h0 : l.length = 0
  · have d0 : decide (((bsOf l).size : Int) > 0) = false := by rw [hsz, h0]; rfl
    have h2 := pick bs hB p (by omega) 5 (by omega) (by omega)
    have h3 := num bs hB (p + 1) (by omega) [1, 0, 2, 5, 999, 7] (by decide) (by decide)
    refine acl_in Try.func167 rfl isfn_167 (Nat.le_of_ble_eq_true rfl) (fun R hR => ?_); rw [Try.results167] at hR; refine wg_run ?_; (simp only [Try.f167, go_sem, d0])
    repeat' (first | (first | (simp only [go_sem, d0]) | (((first | apply sp1 | apply sp2 | apply sp3 | apply sp4 | apply sp5 | apply sp6 | apply sp7) <;> intro hb) <;> (simp only [go_sem, hb, d0])) | ((first | apply wm_done | apply wt_done | apply wg_run | refine fk ?_ ?_) <;> (simp only [go_sem, d0]))) | fail)
    ((first | refine kdq [0] ?_ (hc := h2) | refine kmq [0] ?_ (hc := h2) | refine ktq [0] ?_ (hc := h2)); rintro _ _ ⟨z, rfl, hz, hz1, rfl⟩; (simp only [go_sem]))
    repeat' (first | (first | (((first | apply sp1 | apply sp2 | apply sp3 | apply sp4 | apply sp5 | apply sp6 | apply sp7) <;> intro hb) <;> (simp only [go_sem, hb])) | ((first | apply wm_done | apply wt_done | apply wg_run | refine fk ?_ ?_) <;> (simp only [go_sem]))) | fail)
    · exact hR _ (rat [] (hK := ⟨.tru, p + 1, rfl, rfl, rfl, by simp [E.tm, nd, Tm.size, Tm.sizes, noTy, Ty.size, Ty.sizes], by omega, rfl⟩))
    · exact hR _ (rat [] (hK := ⟨.fls, p + 1, rfl, rfl, rfl, by simp [E.tm, nd, Tm.size, Tm.sizes, noTy, Ty.size, Ty.sizes], by omega, rfl⟩))
    · ((first | refine kdq [0] ?_ (hc := h3) | refine kmq [0] ?_ (hc := h3) | refine ktq [0] ?_ (hc := h3)); rintro _ _ ⟨y, rfl, hy, rfl⟩; (simp only [go_sem]))
      repeat' (first | (first | (((first | apply sp1 | apply sp2 | apply sp3 | apply sp4 | apply sp5 | apply sp6 | apply sp7) <;> intro hb) <;> (simp only [go_sem, hb])) | ((first | apply wm_done | apply wt_done | apply wg_run | refine fk ?_ ?_) <;> (simp only [go_sem]))) | (first | refine cdq ?_ (hc := l2NumS _) | refine cmq ?_ (hc := l2NumS _) | refine ctq ?_ (hc := l2NumS _)); (simp only [go_sem]) | fail)
      exact hR _ (rat [] (hK := ⟨.num y, p + 2, rfl, fin p (by omega) y hy, rfl, by simp [E.tm, nd, Tm.size, Tm.sizes, noTy, Ty.size, Ty.sizes], by omega, rfl⟩))
  · have d0 : decide (((bsOf l).size : Int) > 0) = true := by rw [hsz]; simp; omega
    have h2 := pick bs hB (p + 1) (by omega) 5 (by omega) (by omega)
    have h3 := num bs hB (p + 2) (by omega) [1, 0, 2, 5, 999, 7] (by decide) (by decide)
    have h4 := pick bs hB (p + 1) (by omega) ((bsOf l).size : Nat) (by omega) (by rw [hsz]; omega)
    refine acl_in Try.func167 rfl isfn_167 (Nat.le_of_ble_eq_true rfl) (fun R hR => ?_); rw [Try.results167] at hR; refine wg_run ?_; (simp only [Try.f167, go_sem, d0])
    repeat' (first | (first | (simp only [go_sem, d0]) | (((first | apply sp1 | apply sp2 | apply sp3 | apply sp4 | apply sp5 | apply sp6 | apply sp7) <;> intro hb) <;> (simp only [go_sem, hb, d0])) | ((first | apply wm_done | apply wt_done | apply wg_run | refine fk ?_ ?_) <;> (simp only [go_sem, d0]))) | fail)
    ((first | refine kdq [0] ?_ (hc := h1) | refine kmq [0] ?_ (hc := h1) | refine ktq [0] ?_ (hc := h1)); rintro _ _ ⟨x, rfl, hx, hx1, rfl⟩; (simp only [go_sem]))
    repeat' (first | (first | (((first | apply sp1 | apply sp2 | apply sp3 | apply sp4 | apply sp5 | apply sp6 | apply sp7) <;> intro hb) <;> (simp only [go_sem, hb])) | ((first | apply wm_done | apply wt_done | apply wg_run | refine fk ?_ ?_) <;> (simp only [go_sem]))) | fail)
    · ((first | refine kdq [0] ?_ (hc := h4) | refine kmq [0] ?_ (hc := h4) | refine ktq [0] ?_ (hc := h4)); rintro _ _ ⟨k, rfl, hk, hk1, rfl⟩; (simp only [go_sem]))
      obtain ⟨k, rfl⟩ := Int.eq_ofNat_of_zero_le hk
      have hkl : k < l.length := by rw [hsz] at hk1; omega
      have hw1 := wrap_succ hkl (by omega)
      have d3 : decide (k + 1 ≤ (bsOf l).size) = true := by rw [hsz]; simp; omega
      have d4 : decide (k ≤ k + 1) = true := by simp
      have he := bsOf_one l k hkl
      have hm := hn _ (List.getElem_mem hkl)
      repeat' (first | (first | (simp only [go_sem, hw1, d3, d4, he]) | (((first | apply sp1 | apply sp2 | apply sp3 | apply sp4 | apply sp5 | apply sp6 | apply sp7) <;> intro hb) <;> (simp only [go_sem, hb, hw1, d3, d4, he])) | ((first | apply wm_done | apply wt_done | apply wg_run | refine fk ?_ ?_) <;> (simp only [go_sem, hw1, d3, d4, he]))) | fail)
      exact hR _ (rat [] (hK := ⟨.var l[k], p + 2, rfl, hm, rfl, by simp [E.tm, nd, Tm.size, Tm.sizes, noTy, Ty.size, Ty.sizes], by omega, rfl⟩))
    · ((first | refine kdq [0] ?_ (hc := h2) | refine kmq [0] ?_ (hc := h2) | refine ktq [0] ?_ (hc := h2)); rintro _ _ ⟨z, rfl, hz, hz1, rfl⟩; (simp only [go_sem]))
      repeat' (first | (first | (((first | apply sp1 | apply sp2 | apply sp3 | apply sp4 | apply sp5 | apply sp6 | apply sp7) <;> intro hb) <;> (simp only [go_sem, hb])) | ((first | apply wm_done | apply wt_done | apply wg_run | refine fk ?_ ?_) <;> (simp only [go_sem]))) | fail)
      · exact hR _ (rat [] (hK := ⟨.tru, p + 2, rfl, rfl, rfl, by simp [E.tm, nd, Tm.size, Tm.sizes, noTy, Ty.size, Ty.sizes], by omega, rfl⟩))
      · exact hR _ (rat [] (hK := ⟨.fls, p + 2, rfl, rfl, rfl, by simp [E.tm, nd, Tm.size, Tm.sizes, noTy, Ty.size, Ty.sizes], by omega, rfl⟩))
      · ((first | refine kdq [0] ?_ (hc := h3) | refine kmq [0] ?_ (hc := h3) | refine ktq [0] ?_ (hc := h3)); rintro _ _ ⟨y, rfl, hy, rfl⟩; (simp only [go_sem]))
        repeat' (first | (first | (((first | apply sp1 | apply sp2 | apply sp3 | apply sp4 | apply sp5 | apply sp6 | apply sp7) <;> intro hb) <;> (simp only [go_sem, hb])) | ((first | apply wm_done | apply wt_done | apply wg_run | refine fk ?_ ?_) <;> (simp only [go_sem]))) | (first | refine cdq ?_ (hc := l2NumS _) | refine cmq ?_ (hc := l2NumS _) | refine ctq ?_ (hc := l2NumS _)); (simp only [go_sem]) | fail)
        exact hR _ (rat [] (hK := ⟨.num y, p + 3, rfl, fin p (by omega) y hy, rfl, by simp [E.tm, nd, Tm.size, Tm.sizes, noTy, Ty.size, Ty.sizes], by omega, rfl⟩))
end Go.Proofs.Ytnaebafafhamjaa
