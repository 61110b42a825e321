/- Texts of the proof, one behind another. -/
import Derived.Test.YtnaebafafhamjaaGreatKX10
import Derived.Test.YtnaebafafhamjaaGreatKX11
set_option linter.unusedSimpArgs false
set_option linter.unusedVariables false
/- Terms: copies, and terms mapped; on shadows. -/
namespace Go.Proofs.Sh
open Go.Proofs.Grad
@[go_sem] theorem teC_apps (t : Tm) (l : List C) : teC t ++ l = .sc (.int .i64 (t.kind)) :: .sc (.string (t.name)) :: .sc (.int .i64 (t.num)) :: .sc (.int .i64 (t.type).kind) :: .sl (tyR (t.type).kids) :: .sc (.int .i64 (t.frm).kind) :: .sl (tyR (t.frm).kids) :: .sc (.int .i64 (t.label)) :: .sl (teR (t.kids)) :: l := by rw [teC_eq]; rfl
attribute [go_sem] List.getD_cons_zero List.getD_cons_succ List.getD_nil
/-- the cells of a node whose operands' slice is c -/
def teK (t : Tm) (c : C) : List C := [.sc (.int .i64 (t.kind)), .sc (.string (t.name)), .sc (.int .i64 (t.num)), .sc (.int .i64 (t.type).kind), .sl (tyR (t.type).kids), .sc (.int .i64 (t.frm).kind), .sl (tyR (t.frm).kids), .sc (.int .i64 (t.label)), c]
end Go.Proofs.Sh
namespace Go.Proofs.YtnaebafafhamjaaGreat
open Go.RowKit Go.Proofs.Sh Go.Proofs.Grad
set_option maxRecDepth 100000
set_option maxHeartbeats 8000000
theorem l2Copy (n : Nat) (hn : n ≤ 274877906944) : ∀ t : Tm, t.size < n → AFn Tryz.prog 77 [.agg (teC t)] (.agg (teC t)) := by
  induction n with
  | zero => intro t h; omega
  | succ n ih =>
    intro t h
    have hl := telen_lt t
    have h1 := l1Copy 274877906944 (by omega) t.type (Nat.lt_trans (by cases t; simp only [Tm.size, Tm.type]; omega : t.type.size < t.size) (by omega))
    have h2 := l1Copy 274877906944 (by omega) t.frm (Nat.lt_trans (by cases t; simp only [Tm.size, Tm.frm]; omega : t.frm.size < t.size) (by omega))
    refine fn_in ?_; refine acl_in Tryz.func77 rfl isfn_77 (Nat.le_of_ble_eq_true rfl) (fun R hR => ?_); rw [Tryz.results77] at hR; refine wg_run ?_; (simp only [Tryz.f77, go_sem])
    repeat' (first | (first | (((first | apply sp1 | apply sp2 | apply sp3 | apply sp4 | apply sp5 | apply sp6 | apply sp7) <;> intro hb) <;> (simp only [go_sem, hb])) | ((first | apply wm_done | apply wt_done | apply wg_run | refine fk ?_ ?_) <;> (simp only [go_sem]))) | (first | refine cdq ?_ (hc := h1) | refine cmq ?_ (hc := h1) | refine ctq ?_ (hc := h1)); (simp only [go_sem]) | (first | refine cdq ?_ (hc := h2) | refine cmq ?_ (hc := h2) | refine ctq ?_ (hc := h2)); (simp only [go_sem]))
    refine wd_for [1, 2, 3, 4] (fun k => [.one (.ptr 9 0 0 0), .one (.ptr 9 1 0 0), .one (.ptr 9 2 0 0), .one (.sc (.int .i64 (k : Nat)))])
      (fun k => [⟨9, 28, .mut, [teC t]⟩, ⟨9, 28, .mut, [[.sc (.int .i64 0), .sc (.string { data := { toList := [] } }), .sc (.int .i64 0), .sc (.int .i64 0), .sc (.slice none 0 0), .sc (.int .i64 0), .sc (.slice none 0 0), .sc (.int .i64 0), .sc (.slice none 0 0)]]⟩] ++ (match k with | 0 => [⟨9, 28, .mut, [teK t (.sc (.slice none 0 0))]⟩] | k + 1 => [⟨9, 28, .mut, [teK t (.row 9 3 (k + 1))]⟩, ⟨9, 28, .mut, teR (t.kids.take (k + 1))⟩]))
      (fun k => k ≤ t.kids.length) (fun k => t.kids.length - k) 0 (Nat.zero_le _) (hat [0, 1, 2] (hI := ⟨rfl, rfl⟩)) ?_
    rintro (_ | k) hk G hG
    · refine wg_run ?_
      simp only [teK] at hG ⊢
      (simp only [go_sem])
      ((first | apply sp1 | apply sp2 | apply sp3 | apply sp4 | apply sp5 | apply sp6 | apply sp7) <;> intro hb) <;> (simp only [go_sem, hb])
      · have hk1 : 0 < t.kids.length := by have := of_decide_eq_true hb; omega
        have hc := ih (by omega) (teKid t.kids 0) (by have := teKid_lt hk1; omega)
        repeat' (first | (first | (simp only [go_sem, hb]) | (((first | apply sp1 | apply sp2 | apply sp3 | apply sp4 | apply sp5 | apply sp6 | apply sp7) <;> intro hb) <;> (simp only [go_sem, hb, hb])) | ((first | apply wm_done | apply wt_done | apply wg_run | refine fk ?_ ?_) <;> (simp only [go_sem, hb]))) | ((first | refine mxq6 [] ?_ | refine mxq5 [] ?_ | refine mxq4 [] ?_ | refine mxq3 [] ?_ | refine mxq2 [] ?_ | refine mxq1 [] ?_ | refine mxq0 [] ?_ | fail); (simp only [go_sem, hb])) | (first | refine cdq ?_ (hc := hc) | refine cmq ?_ (hc := hc) | refine ctq ?_ (hc := hc)); (simp only [go_sem]))
        refine hG 1 _ _ (by omega) (by omega) (hat [0, 1, 2, 4] (hI := ⟨rfl, ?_⟩))
        simp only [teR_take hk1, List.take_zero, teR, List.nil_append, List.cons_append]
      · have hk1 : t.kids = [] := by have := of_decide_eq_false hb; exact List.eq_nil_of_length_eq_zero (by omega)
        (refine hR _ (rat [] (hK := ⟨?_, rfl⟩)))
        rw [teC_eq, hk1]; rfl
    · refine wg_run ?_
      simp only [teK] at hG ⊢
      have hw1 : k + 1 < t.kids.length → IntKind.i64.wrap (((k + 1 : Nat) : Int) + 1) = ((k + 1 + 1 : Nat) : Int) := fun h => wrap_succ h (by omega)
      (simp only [go_sem])
      ((first | apply sp1 | apply sp2 | apply sp3 | apply sp4 | apply sp5 | apply sp6 | apply sp7) <;> intro hb) <;> (simp only [go_sem, hb])
      · have hk1 : k + 1 < t.kids.length := by have := of_decide_eq_true hb; omega
        have hw1 := hw1 hk1
        have hlen : (t.kids.take (k + 1)).length = k + 1 := by rw [List.length_take]; omega
        have hcap : (k + 1 + 1) * 128 ≤ 140737488355328 := by omega
        have hc := ih (by omega) (teKid t.kids (k + 1)) (by have := teKid_lt hk1; omega)
        repeat' (first | (first | (simp only [go_sem, hb, hlen, hcap, hw1]) | (((first | apply sp1 | apply sp2 | apply sp3 | apply sp4 | apply sp5 | apply sp6 | apply sp7) <;> intro hb) <;> (simp only [go_sem, hb, hb, hlen, hcap, hw1])) | ((first | apply wm_done | apply wt_done | apply wg_run | refine fk ?_ ?_) <;> (simp only [go_sem, hb, hlen, hcap, hw1]))) | ((first | refine mxq6 [] ?_ | refine mxq5 [] ?_ | refine mxq4 [] ?_ | refine mxq3 [] ?_ | refine mxq2 [] ?_ | refine mxq1 [] ?_ | refine mxq0 [] ?_ | fail); (simp only [go_sem, hb, hlen, hcap, hw1])) | (first | refine cdq ?_ (hc := hc) | refine cmq ?_ (hc := hc) | refine ctq ?_ (hc := hc)); (simp only [go_sem]))
        refine hG (k + 2) _ _ (by omega) (by omega) (hat [0, 1, 2, 5] (hI := ⟨rfl, ?_⟩))
        rw [← teR_take hk1]
        rfl
      · have hk1 : t.kids.take (k + 1) = t.kids := by have := of_decide_eq_false hb; exact List.take_of_length_le (by omega)
        have hlen : t.kids.length = k + 1 := by have := of_decide_eq_false hb; omega
        rw [hk1]
        (refine hR _ (ret_at [] (by (simp only [go_sem, hlen]); first | done | rfl) (by (simp only [go_sem, hlen]); first | done | rfl) ⟨?_, rfl⟩))
        rw [teC_eq]
end Go.Proofs.YtnaebafafhamjaaGreat
/- Terms: terms mapped by a function, on shadows. -/
namespace Go.Proofs.Grad
def E.mapE (φ : E → E) : E → E
  | .var x => φ (.var x)
  | .num n => φ (.num n)
  | .tru => φ .tru
  | .fls => φ .fls
  | .lam x t a => φ (.lam x t (a.mapE φ))
  | .app a b => φ (.app (a.mapE φ) (b.mapE φ))
  | .add a b => φ (.add (a.mapE φ) (b.mapE φ))
  | .less a b => φ (.less (a.mapE φ) (b.mapE φ))
  | .ite a b c => φ (.ite (a.mapE φ) (b.mapE φ) (c.mapE φ))
  | .pair a b => φ (.pair (a.mapE φ) (b.mapE φ))
  | .fst a => φ (.fst (a.mapE φ))
  | .snd a => φ (.snd (a.mapE φ))
  | .asc t a => φ (.asc t (a.mapE φ))
  | .cast s t l a => φ (.cast s t l (a.mapE φ))
theorem E.mapE_wf {φ : E → E} (h : ∀ x : E, x.wf = true → (φ x).wf = true) (e : E) : e.wf = true → (e.mapE φ).wf = true := by
  induction e with
  | var _ | num _ | tru | fls => intro hw; exact h _ hw
  | lam _ _ a ih => intro hw; simp only [E.wf, Bool.and_eq_true] at hw; refine h _ ?_; simp only [E.wf, Bool.and_eq_true]; exact ⟨hw.1, hw.2.1, ih hw.2.2⟩
  | app a b iha ihb | add a b iha ihb | less a b iha ihb | pair a b iha ihb =>
    intro hw; simp only [E.wf, Bool.and_eq_true] at hw; refine h _ ?_; simp only [E.wf, Bool.and_eq_true]; exact ⟨iha hw.1, ihb hw.2⟩
  | ite a b c iha ihb ihc =>
    intro hw; simp only [E.wf, Bool.and_eq_true] at hw; refine h _ ?_; simp only [E.wf, Bool.and_eq_true]; exact ⟨iha hw.1, ihb hw.2.1, ihc hw.2.2⟩
  | fst a ih | snd a ih => intro hw; refine h _ ?_; exact ih hw
  | cast s t l a ih => intro hw; simp only [E.wf, Bool.and_eq_true] at hw; refine h _ ?_; simp only [E.wf, Bool.and_eq_true]; exact ⟨hw.1, hw.2.1, hw.2.2.1, ih hw.2.2.2⟩
  | _ => rename_i t a ih; intro hw; simp only [E.wf, Bool.and_eq_true] at hw; refine h _ ?_; simp only [E.wf, Bool.and_eq_true]; exact ⟨hw.1, ih hw.2⟩
theorem E.mapE_id (e : E) : e.mapE id = e := by
  induction e <;> simp [E.mapE, *]
theorem T.ty_small {t : T} (h : t.depth ≤ 4) : t.ty.size < 1000 := by
  have : ∀ (x : T) (d : Nat), x.depth ≤ d → d ≤ 4 → x.size < 2 ^ d := by
    intro x
    induction x with
    | any | int | bool => intro d h1 h2; simp only [T.depth, T.size] at *; exact Nat.one_lt_two_pow (by omega)
    | fn a b iha ihb | pr a b iha ihb =>
      intro d h1 h2
      simp only [T.depth, T.size] at *
      obtain ⟨d, rfl⟩ : ∃ e, d = e + 1 := ⟨d - 1, by omega⟩
      have := iha d (by omega) (by omega); have := ihb d (by omega) (by omega)
      rw [Nat.pow_succ]; omega
  have := this t 4 h (Nat.le_refl _)
  rw [T.ty_size]; omega
end Go.Proofs.Grad
namespace Go.Proofs.YtnaebafafhamjaaGreat
open Go.RowKit Go.Proofs.Sh Go.Proofs.Grad
set_option maxRecDepth 100000
set_option maxHeartbeats 8000000
theorem iOwnNo : AFn Tryz.prog 57 [.agg (tyC noTy)] (.agg (tyC noTy)) := iOwnTy 1000 (by omega) noTy (by simp [noTy, Ty.size, Ty.sizes])
theorem iOwnT {t : T} (h : t.depth ≤ 4) : AFn Tryz.prog 57 [.agg (tyC t.ty)] (.agg (tyC t.ty)) := iOwnTy 1000 (by omega) t.ty (T.ty_small h)
theorem iMapped (g : FuncId) (φ : E → E) (hφ : ∀ x : E, x.wf = true → (φ x).wf = true) (hg : ∀ x : E, x.wf = true → AFn Tryz.prog g [.agg (teC x.tm)] (.agg (teC (φ x).tm))) (e : E) (h : e.wf = true) :
    AFn Tryz.prog 97 [.agg (teC e.tm), .one (.fn g [])] (.agg (teC (e.mapE φ).tm)) := by
  have ho := iOwnNo
  induction e with
  | var _ | num _ | tru | fls =>
    have hg := hg _ h
    simp only [E.mapE]
    rw [teC_eq] at hg
    simp only [E.tm, nd] at hg ⊢
    refine fn_in ?_; refine acl_in Tryz.func97 rfl isfn_97 (Nat.le_of_ble_eq_true rfl) (fun R hR => ?_); rw [Tryz.results97] at hR; refine wg_run ?_; (simp only [Tryz.f97, go_sem])
    repeat' (first | (first | (((first | apply sp1 | apply sp2 | apply sp3 | apply sp4 | apply sp5 | apply sp6 | apply sp7) <;> intro hb) <;> (simp only [go_sem, hb])) | ((first | apply wm_done | apply wt_done | apply wg_run | refine fk ?_ ?_) <;> (simp only [go_sem]))) | (first | (refine wl_next (wg_run ?_); (simp only [go_sem])) | refine wd_rounds 6 ?_) | (first | refine cdq ?_ (hc := ho) | refine cmq ?_ (hc := ho) | refine ctq ?_ (hc := ho)); (simp only [go_sem]) | ((first | refine mxq6 [] ?_ | refine mxq5 [] ?_ | refine mxq4 [] ?_ | refine mxq3 [] ?_ | refine mxq2 [] ?_ | refine mxq1 [] ?_ | refine mxq0 [] ?_ | fail); (simp only [go_sem])) | (first | refine cdq ?_ (hc := hg) | refine cmq ?_ (hc := hg) | refine ctq ?_ (hc := hg)); (simp only [go_sem]))
    (refine hR _ (rat [] (hK := ⟨?_, rfl⟩)))
    rfl
  | app a b iha ihb | add a b iha ihb | less a b iha ihb | pair a b iha ihb =>
    simp only [E.wf, Bool.and_eq_true] at h
    have iha := iha h.1
    have ihb := ihb h.2
    have wa := E.mapE_wf hφ a h.1
    have wb := E.mapE_wf hφ b h.2
    have g1 := hg (.app (a.mapE φ) (b.mapE φ)) (by simp only [E.wf, Bool.and_eq_true]; exact ⟨wa, wb⟩)
    have g2 := hg (.add (a.mapE φ) (b.mapE φ)) (by simp only [E.wf, Bool.and_eq_true]; exact ⟨wa, wb⟩)
    have g3 := hg (.less (a.mapE φ) (b.mapE φ)) (by simp only [E.wf, Bool.and_eq_true]; exact ⟨wa, wb⟩)
    have g4 := hg (.pair (a.mapE φ) (b.mapE φ)) (by simp only [E.wf, Bool.and_eq_true]; exact ⟨wa, wb⟩)
    clear hg
    simp only [E.mapE]
    rw [teC_eq] at g1 g2 g3 g4
    simp only [E.tm, nd, go_sem] at g1 g2 g3 g4 ⊢
    refine fn_in ?_; refine acl_in Tryz.func97 rfl isfn_97 (Nat.le_of_ble_eq_true rfl) (fun R hR => ?_); rw [Tryz.results97] at hR; refine wg_run ?_; (simp only [Tryz.f97, go_sem])
    repeat' (first | (first | (((first | apply sp1 | apply sp2 | apply sp3 | apply sp4 | apply sp5 | apply sp6 | apply sp7) <;> intro hb) <;> (simp only [go_sem, hb])) | ((first | apply wm_done | apply wt_done | apply wg_run | refine fk ?_ ?_) <;> (simp only [go_sem]))) | (first | (refine wl_next (wg_run ?_); (simp only [go_sem])) | refine wd_rounds 6 ?_) | (first | refine cdq ?_ (hc := iha) | refine cmq ?_ (hc := iha) | refine ctq ?_ (hc := iha)); (simp only [go_sem]) | (first | refine cdq ?_ (hc := ihb) | refine cmq ?_ (hc := ihb) | refine ctq ?_ (hc := ihb)); (simp only [go_sem]) | (first | refine cdq ?_ (hc := ho) | refine cmq ?_ (hc := ho) | refine ctq ?_ (hc := ho)); (simp only [go_sem]) | ((first | refine mxq6 [] ?_ | refine mxq5 [] ?_ | refine mxq4 [] ?_ | refine mxq3 [] ?_ | refine mxq2 [] ?_ | refine mxq1 [] ?_ | refine mxq0 [] ?_ | fail); (simp only [go_sem])) | (first | refine cdq ?_ (hc := g1) | refine cmq ?_ (hc := g1) | refine ctq ?_ (hc := g1)); (simp only [go_sem]) | (first | refine cdq ?_ (hc := g2) | refine cmq ?_ (hc := g2) | refine ctq ?_ (hc := g2)); (simp only [go_sem]) | (first | refine cdq ?_ (hc := g3) | refine cmq ?_ (hc := g3) | refine ctq ?_ (hc := g3)); (simp only [go_sem]) | (first | refine cdq ?_ (hc := g4) | refine cmq ?_ (hc := g4) | refine ctq ?_ (hc := g4)); (simp only [go_sem]))
    (refine hR _ (rat [] (hK := ⟨?_, rfl⟩)))
    rfl
  | ite a b c iha ihb ihc =>
    simp only [E.wf, Bool.and_eq_true] at h
    have iha := iha h.1
    have ihb := ihb h.2.1
    have ihc := ihc h.2.2
    have g1 := hg (.ite (a.mapE φ) (b.mapE φ) (c.mapE φ)) (by simp only [E.wf, Bool.and_eq_true]; exact ⟨E.mapE_wf hφ a h.1, E.mapE_wf hφ b h.2.1, E.mapE_wf hφ c h.2.2⟩)
    clear hg
    simp only [E.mapE]
    rw [teC_eq] at g1
    simp only [E.tm, nd, go_sem] at g1 ⊢
    refine fn_in ?_; refine acl_in Tryz.func97 rfl isfn_97 (Nat.le_of_ble_eq_true rfl) (fun R hR => ?_); rw [Tryz.results97] at hR; refine wg_run ?_; (simp only [Tryz.f97, go_sem])
    repeat' (first | (first | (((first | apply sp1 | apply sp2 | apply sp3 | apply sp4 | apply sp5 | apply sp6 | apply sp7) <;> intro hb) <;> (simp only [go_sem, hb])) | ((first | apply wm_done | apply wt_done | apply wg_run | refine fk ?_ ?_) <;> (simp only [go_sem]))) | (first | (refine wl_next (wg_run ?_); (simp only [go_sem])) | refine wd_rounds 6 ?_) | (first | refine cdq ?_ (hc := iha) | refine cmq ?_ (hc := iha) | refine ctq ?_ (hc := iha)); (simp only [go_sem]) | (first | refine cdq ?_ (hc := ihb) | refine cmq ?_ (hc := ihb) | refine ctq ?_ (hc := ihb)); (simp only [go_sem]) | (first | refine cdq ?_ (hc := ihc) | refine cmq ?_ (hc := ihc) | refine ctq ?_ (hc := ihc)); (simp only [go_sem]) | (first | refine cdq ?_ (hc := ho) | refine cmq ?_ (hc := ho) | refine ctq ?_ (hc := ho)); (simp only [go_sem]) | ((first | refine mxq6 [] ?_ | refine mxq5 [] ?_ | refine mxq4 [] ?_ | refine mxq3 [] ?_ | refine mxq2 [] ?_ | refine mxq1 [] ?_ | refine mxq0 [] ?_ | fail); (simp only [go_sem])) | (first | refine cdq ?_ (hc := g1) | refine cmq ?_ (hc := g1) | refine ctq ?_ (hc := g1)); (simp only [go_sem]))
    (refine hR _ (rat [] (hK := ⟨?_, rfl⟩)))
    rfl
  | lam x t a ih =>
    simp only [E.wf, Bool.and_eq_true, decide_eq_true_eq] at h
    have ih := ih h.2.2
    have hot := iOwnT h.2.1
    have g1 := hg (.lam x t (a.mapE φ)) (by simp only [E.wf, Bool.and_eq_true, decide_eq_true_eq]; exact ⟨h.1, h.2.1, E.mapE_wf hφ a h.2.2⟩)
    clear hg
    simp only [E.mapE]
    rw [teC_eq] at g1
    simp only [E.tm, nd, go_sem] at g1 ⊢
    refine fn_in ?_; refine acl_in Tryz.func97 rfl isfn_97 (Nat.le_of_ble_eq_true rfl) (fun R hR => ?_); rw [Tryz.results97] at hR; refine wg_run ?_; (simp only [Tryz.f97, go_sem])
    repeat' (first | (first | (((first | apply sp1 | apply sp2 | apply sp3 | apply sp4 | apply sp5 | apply sp6 | apply sp7) <;> intro hb) <;> (simp only [go_sem, hb])) | ((first | apply wm_done | apply wt_done | apply wg_run | refine fk ?_ ?_) <;> (simp only [go_sem]))) | (first | (refine wl_next (wg_run ?_); (simp only [go_sem])) | refine wd_rounds 6 ?_) | (first | refine cdq ?_ (hc := ih) | refine cmq ?_ (hc := ih) | refine ctq ?_ (hc := ih)); (simp only [go_sem]) | (first | refine cdq ?_ (hc := hot) | refine cmq ?_ (hc := hot) | refine ctq ?_ (hc := hot)); (simp only [go_sem]) | (first | refine cdq ?_ (hc := ho) | refine cmq ?_ (hc := ho) | refine ctq ?_ (hc := ho)); (simp only [go_sem]) | ((first | refine mxq6 [] ?_ | refine mxq5 [] ?_ | refine mxq4 [] ?_ | refine mxq3 [] ?_ | refine mxq2 [] ?_ | refine mxq1 [] ?_ | refine mxq0 [] ?_ | fail); (simp only [go_sem])) | (first | refine cdq ?_ (hc := g1) | refine cmq ?_ (hc := g1) | refine ctq ?_ (hc := g1)); (simp only [go_sem]))
    (refine hR _ (rat [] (hK := ⟨?_, rfl⟩)))
    rfl
  | fst a ih | snd a ih =>
    simp only [E.wf] at h
    have ih := ih h
    have g1 := hg (.fst (a.mapE φ)) (E.mapE_wf hφ a h)
    have g2 := hg (.snd (a.mapE φ)) (E.mapE_wf hφ a h)
    clear hg
    simp only [E.mapE]
    rw [teC_eq] at g1 g2
    simp only [E.tm, nd, go_sem] at g1 g2 ⊢
    refine fn_in ?_; refine acl_in Tryz.func97 rfl isfn_97 (Nat.le_of_ble_eq_true rfl) (fun R hR => ?_); rw [Tryz.results97] at hR; refine wg_run ?_; (simp only [Tryz.f97, go_sem])
    repeat' (first | (first | (((first | apply sp1 | apply sp2 | apply sp3 | apply sp4 | apply sp5 | apply sp6 | apply sp7) <;> intro hb) <;> (simp only [go_sem, hb])) | ((first | apply wm_done | apply wt_done | apply wg_run | refine fk ?_ ?_) <;> (simp only [go_sem]))) | (first | (refine wl_next (wg_run ?_); (simp only [go_sem])) | refine wd_rounds 6 ?_) | (first | refine cdq ?_ (hc := ih) | refine cmq ?_ (hc := ih) | refine ctq ?_ (hc := ih)); (simp only [go_sem]) | (first | refine cdq ?_ (hc := ho) | refine cmq ?_ (hc := ho) | refine ctq ?_ (hc := ho)); (simp only [go_sem]) | ((first | refine mxq6 [] ?_ | refine mxq5 [] ?_ | refine mxq4 [] ?_ | refine mxq3 [] ?_ | refine mxq2 [] ?_ | refine mxq1 [] ?_ | refine mxq0 [] ?_ | fail); (simp only [go_sem])) | (first | refine cdq ?_ (hc := g1) | refine cmq ?_ (hc := g1) | refine ctq ?_ (hc := g1)); (simp only [go_sem]) | (first | refine cdq ?_ (hc := g2) | refine cmq ?_ (hc := g2) | refine ctq ?_ (hc := g2)); (simp only [go_sem]))
    (refine hR _ (rat [] (hK := ⟨?_, rfl⟩)))
    rfl
  | cast s t l a ih =>
    simp only [E.wf, Bool.and_eq_true, decide_eq_true_eq] at h
    have ih := ih h.2.2.2
    have hos := iOwnT h.1.1
    have hot := iOwnT h.1.2
    have g1 := hg (.cast s t l (a.mapE φ)) (by simp only [E.wf, Bool.and_eq_true, decide_eq_true_eq]; exact ⟨h.1, h.2.1, h.2.2.1, E.mapE_wf hφ a h.2.2.2⟩)
    clear hg
    simp only [E.mapE]
    rw [teC_eq] at g1
    simp only [E.tm, nd, go_sem] at g1 ⊢
    refine fn_in ?_; refine acl_in Tryz.func97 rfl isfn_97 (Nat.le_of_ble_eq_true rfl) (fun R hR => ?_); rw [Tryz.results97] at hR; refine wg_run ?_; (simp only [Tryz.f97, go_sem])
    repeat' (first | (first | (((first | apply sp1 | apply sp2 | apply sp3 | apply sp4 | apply sp5 | apply sp6 | apply sp7) <;> intro hb) <;> (simp only [go_sem, hb])) | ((first | apply wm_done | apply wt_done | apply wg_run | refine fk ?_ ?_) <;> (simp only [go_sem]))) | (first | (refine wl_next (wg_run ?_); (simp only [go_sem])) | refine wd_rounds 6 ?_) | (first | refine cdq ?_ (hc := ih) | refine cmq ?_ (hc := ih) | refine ctq ?_ (hc := ih)); (simp only [go_sem]) | (first | refine cdq ?_ (hc := hot) | refine cmq ?_ (hc := hot) | refine ctq ?_ (hc := hot)); (simp only [go_sem]) | (first | refine cdq ?_ (hc := hos) | refine cmq ?_ (hc := hos) | refine ctq ?_ (hc := hos)); (simp only [go_sem]) | ((first | refine mxq6 [] ?_ | refine mxq5 [] ?_ | refine mxq4 [] ?_ | refine mxq3 [] ?_ | refine mxq2 [] ?_ | refine mxq1 [] ?_ | refine mxq0 [] ?_ | fail); (simp only [go_sem])) | (first | refine cdq ?_ (hc := g1) | refine cmq ?_ (hc := g1) | refine ctq ?_ (hc := g1)); (simp only [go_sem]))
    (refine hR _ (rat [] (hK := ⟨?_, rfl⟩)))
    rfl
  | _ =>
    rename_i t a ih
    simp only [E.wf, Bool.and_eq_true, decide_eq_true_eq] at h
    have ih := ih h.2
    have hot := iOwnT h.1
    have g1 := hg (E.asc t (a.mapE φ)) (by simp only [E.wf, Bool.and_eq_true, decide_eq_true_eq]; exact ⟨h.1, E.mapE_wf hφ a h.2⟩)
    clear hg
    simp only [E.mapE]
    rw [teC_eq] at g1
    simp only [E.tm, nd, go_sem] at g1 ⊢
    refine fn_in ?_; refine acl_in Tryz.func97 rfl isfn_97 (Nat.le_of_ble_eq_true rfl) (fun R hR => ?_); rw [Tryz.results97] at hR; refine wg_run ?_; (simp only [Tryz.f97, go_sem])
    repeat' (first | (first | (((first | apply sp1 | apply sp2 | apply sp3 | apply sp4 | apply sp5 | apply sp6 | apply sp7) <;> intro hb) <;> (simp only [go_sem, hb])) | ((first | apply wm_done | apply wt_done | apply wg_run | refine fk ?_ ?_) <;> (simp only [go_sem]))) | (first | (refine wl_next (wg_run ?_); (simp only [go_sem])) | refine wd_rounds 6 ?_) | (first | refine cdq ?_ (hc := ih) | refine cmq ?_ (hc := ih) | refine ctq ?_ (hc := ih)); (simp only [go_sem]) | (first | refine cdq ?_ (hc := hot) | refine cmq ?_ (hc := hot) | refine ctq ?_ (hc := hot)); (simp only [go_sem]) | (first | refine cdq ?_ (hc := ho) | refine cmq ?_ (hc := ho) | refine ctq ?_ (hc := ho)); (simp only [go_sem]) | ((first | refine mxq6 [] ?_ | refine mxq5 [] ?_ | refine mxq4 [] ?_ | refine mxq3 [] ?_ | refine mxq2 [] ?_ | refine mxq1 [] ?_ | refine mxq0 [] ?_ | fail); (simp only [go_sem])) | (first | refine cdq ?_ (hc := g1) | refine cmq ?_ (hc := g1) | refine ctq ?_ (hc := g1)); (simp only [go_sem]))
    (refine hR _ (rat [] (hK := ⟨?_, rfl⟩)))
    rfl
theorem iOwn1 (t : Tm) : AFn Tryz.prog 161 [.agg (teC t)] (.agg (teC t)) := by
  refine fn_in ?_; refine acl_in Tryz.func161 rfl isfn_161 (Nat.le_of_ble_eq_true rfl) (fun R hR => ?_); rw [Tryz.results161] at hR; refine wg_run ?_; (simp only [Tryz.f161, go_sem])
  repeat' (first | (((first | apply sp1 | apply sp2 | apply sp3 | apply sp4 | apply sp5 | apply sp6 | apply sp7) <;> intro hb) <;> (simp only [go_sem, hb])) | ((first | apply wm_done | apply wt_done | apply wg_run | refine fk ?_ ?_) <;> (simp only [go_sem])))
  (refine hR _ (rat [] (hK := ⟨rfl, rfl⟩)))
theorem iOwn (e : E) (h : e.wf = true) : AFn Tryz.prog 112 [.agg (teC e.tm)] (.agg (teC e.tm)) := by
  have hm := iMapped 161 id (fun _ h => h) (fun x _ => iOwn1 x.tm) e h
  rw [E.mapE_id] at hm
  refine fn_in ?_; refine acl_in Tryz.func112 rfl isfn_112 (Nat.le_of_ble_eq_true rfl) (fun R hR => ?_); rw [Tryz.results112] at hR; refine wg_run ?_; (simp only [Tryz.f112, go_sem])
  repeat' (first | (first | (((first | apply sp1 | apply sp2 | apply sp3 | apply sp4 | apply sp5 | apply sp6 | apply sp7) <;> intro hb) <;> (simp only [go_sem, hb])) | ((first | apply wm_done | apply wt_done | apply wg_run | refine fk ?_ ?_) <;> (simp only [go_sem]))) | (first | refine cdq ?_ (hc := hm) | refine cmq ?_ (hc := hm) | refine ctq ?_ (hc := hm)); (simp only [go_sem]))
  (refine hR _ (rat [] (hK := ⟨rfl, rfl⟩)))
end Go.Proofs.YtnaebafafhamjaaGreat
/- Terms: the casts of a term, on shadows. -/
namespace Go.Proofs.Grad
def ownCast (t : Tm) : List Tm := match t.kind == 14 with | true => [t] | false => []
mutual
def Tm.castsL : Tm → List Tm | .mk k n m t f b l => ownCast (.mk k n m t f b l) ++ Tm.castsLs l
def Tm.castsLs : List Tm → List Tm | [] => [] | t :: l => t.castsL ++ Tm.castsLs l
end
theorem Tm.castsL_eq (t : Tm) : t.castsL = ownCast t ++ Tm.castsLs t.kids := by cases t; rfl
theorem ownCast_len (t : Tm) : (ownCast t).length ≤ 1 := by unfold ownCast; split <;> simp
mutual
theorem Tm.castsL_len : ∀ t : Tm, t.castsL.length ≤ t.nodes
  | .mk k n m t f b l => by have := Tm.castsLs_len l; have := ownCast_len (.mk k n m t f b l); simp only [Tm.castsL, Tm.nodes, List.length_append]; omega
theorem Tm.castsLs_len : ∀ l : List Tm, (Tm.castsLs l).length ≤ Tm.nodess l
  | [] => by simp [Tm.castsLs]
  | t :: l => by have := Tm.castsL_len t; have := Tm.castsLs_len l; simp only [Tm.castsLs, Tm.nodess, List.length_append]; omega
end
theorem Tm.castsLs_append (l m : List Tm) : Tm.castsLs (l ++ m) = Tm.castsLs l ++ Tm.castsLs m := by
  induction l with
  | nil => rfl
  | cons t l ih => simp [Tm.castsLs, ih]
theorem Tm.castsLs_take {l : List Tm} {k : Nat} (h : k < l.length) : Tm.castsLs (l.take (k + 1)) = Tm.castsLs (l.take k) ++ (Sh.teKid l k).castsL := by
  rw [Sh.tetake_kid h, Tm.castsLs_append]; simp [Tm.castsLs]
theorem Tm.castsLs_take_len (l : List Tm) (k : Nat) : (Tm.castsLs (l.take k)).length ≤ Tm.nodess l := Nat.le_trans (Tm.castsLs_len _) (Tm.nodess_le_take l k)
/-- how many casts a valid term with casts has -/
noncomputable def Tm.castN (t : Tm) : Nat := match t.castV with | true => t.castsL.length | false => 0
end Go.Proofs.Grad
namespace Go.Proofs.Sh
attribute [go_sem] List.getD_cons_zero List.getD_cons_succ List.getD_nil
end Go.Proofs.Sh
namespace Go.Proofs.YtnaebafafhamjaaGreat
open Go.RowKit Go.Proofs.Sh Go.Proofs.Grad
set_option maxRecDepth 100000
set_option maxHeartbeats 8000000
theorem iCasts (n : Nat) (hn : n ≤ 274877906944) : ∀ t : Tm, t.size < n → AFn Tryz.prog 38 [.agg (teC t)] (.one (.sl (teR t.castsL))) := by
  induction n with
  | zero => intro t h; omega
  | succ n ih =>
    intro t h
    have hl := telen_lt t
    have hnl := t.nodes_le
    have hne := t.nodes_eq
    have e0 : ownCast t = (match t.kind == 14 with | true => [t] | false => []) := rfl
    cases hty : (t.kind == 14)
    all_goals
      rw [hty] at e0
      simp only [] at e0
      refine fn_in ?_; refine acl_in Tryz.func38 rfl isfn_38 (Nat.le_of_ble_eq_true rfl) (fun R hR => ?_); rw [Tryz.results38] at hR; refine wg_run ?_; (simp only [Tryz.f38, go_sem])
      repeat' (first | (simp only [go_sem, hty]) | (((first | apply sp1 | apply sp2 | apply sp3 | apply sp4 | apply sp5 | apply sp6 | apply sp7) <;> intro hb) <;> (simp only [go_sem, hb, hty])) | ((first | apply wm_done | apply wt_done | apply wg_run | refine fk ?_ ?_) <;> (simp only [go_sem, hty])))
      first
        | refine wd_for [3, 14, 15, 16] (fun (x : Nat × List Tm) => [.one (match x.2 with | [] => .sc (.slice none 0 0) | a :: l => .row 9 0 (l.length + 1)), .one (.sl (teR t.kids)), .one (.sc (.int .i64 t.kids.length)), .one (.sc (.int .i64 (x.1 : Nat)))])
            (fun x => match x.2 with | [] => [] | a :: l => [⟨9, 28, .mut, teR (a :: l)⟩])
            (fun x => x.1 ≤ t.kids.length ∧ x.2 = ownCast t ++ Tm.castsLs (t.kids.take x.1)) (fun x => t.kids.length - x.1) (0, []) ⟨Nat.zero_le _, by rw [e0]; rfl⟩ (hat [] (hI := ⟨rfl, rfl⟩)) ?_
        | refine wd_for [3, 14, 15, 16] (fun (x : Nat × List Tm) => [.one (match x.2 with | [] => .sc (.slice none 0 0) | a :: l => .row 9 0 (l.length + 1)), .one (.sl (teR t.kids)), .one (.sc (.int .i64 t.kids.length)), .one (.sc (.int .i64 (x.1 : Nat)))])
            (fun x => match x.2 with | [] => [] | a :: l => [⟨9, 28, .mut, teR (a :: l)⟩])
            (fun x => x.1 ≤ t.kids.length ∧ x.2 = ownCast t ++ Tm.castsLs (t.kids.take x.1)) (fun x => t.kids.length - x.1) (0, [t]) ⟨Nat.zero_le _, by rw [e0]; rfl⟩ (hat [2] (hI := ⟨rfl, rfl⟩)) ?_
      rintro ⟨k, acc⟩ ⟨hk, hacc⟩ G hG
      simp only [] at hk hacc hG
      have hal : acc.length ≤ 1 + Tm.nodess t.kids := by
        have := ownCast_len t; have := Tm.castsLs_take_len t.kids k
        rw [hacc, List.length_append]; omega
      rcases acc with _ | ⟨a, acc⟩
      all_goals
        refine wg_run ?_
        (simp only [go_sem])
        ((first | apply sp1 | apply sp2 | apply sp3 | apply sp4 | apply sp5 | apply sp6 | apply sp7) <;> intro hb) <;> (simp only [go_sem, hb])
        · have hk1 : k < t.kids.length := by have := of_decide_eq_true hb; omega
          have hw1 := wrap_succ hk1 (by omega)
          have hc := ih (by omega) (teKid t.kids k) (by have := teKid_lt hk1; omega)
          have hkl := Tm.castsL_len (teKid t.kids k)
          have hkn := Tm.nodess_le_take t.kids (k + 1)
          rw [Tm.nodess_take hk1] at hkn
          have hnx : ownCast t ++ Tm.castsLs (t.kids.take (k + 1)) = ownCast t ++ Tm.castsLs (t.kids.take k) ++ (teKid t.kids k).castsL := by rw [Tm.castsLs_take hk1, List.append_assoc]
          rw [← hacc] at hnx
          cases hkt : (teKid t.kids k).castsL with
          | nil =>
            rw [hkt] at hc hnx
            repeat' (first | (first | (simp only [go_sem, hw1, hb]) | (((first | apply sp1 | apply sp2 | apply sp3 | apply sp4 | apply sp5 | apply sp6 | apply sp7) <;> intro hb) <;> (simp only [go_sem, hb, hw1, hb])) | ((first | apply wm_done | apply wt_done | apply wg_run | refine fk ?_ ?_) <;> (simp only [go_sem, hw1, hb]))) | (first | refine cdq ?_ (hc := hc) | refine cmq ?_ (hc := hc) | refine ctq ?_ (hc := hc)); (simp only [go_sem]))
            rw [List.append_nil] at hnx
            first
              | exact hG (k + 1, []) _ _ ⟨by omega, hnx.symm⟩ (by simp only []; omega) (hat [] (hI := ⟨rfl, rfl⟩))
              | exact hG (k + 1, a :: acc) _ _ ⟨by omega, hnx.symm⟩ (by simp only []; omega) (hat [0] (hI := ⟨rfl, rfl⟩))
          | cons b m =>
            rw [hkt] at hc hnx hkl
            simp only [List.length_cons] at hkl hal
            have hcap1 : (m.length + 1) * 128 ≤ 140737488355328 := by omega
            first
              | (have hcap2 : (acc.length + 1 + (m.length + 1)) * 128 ≤ 140737488355328 := by omega
                 repeat' (first | (first | (simp only [go_sem, hw1, hb, hcap1, hcap2]) | (((first | apply sp1 | apply sp2 | apply sp3 | apply sp4 | apply sp5 | apply sp6 | apply sp7) <;> intro hb) <;> (simp only [go_sem, hb, hw1, hb, hcap1, hcap2])) | ((first | apply wm_done | apply wt_done | apply wg_run | refine fk ?_ ?_) <;> (simp only [go_sem, hw1, hb, hcap1, hcap2]))) | (first | refine cdq ?_ (hc := hc) | refine cmq ?_ (hc := hc) | refine ctq ?_ (hc := hc)); (simp only [go_sem]))
                 refine hG (k + 1, a :: acc ++ b :: m) _ _ ⟨by omega, hnx.symm⟩ (by simp only []; omega) (hat [2] (hI := ⟨?_, ?_⟩))
                 · simp only [List.cons_append, List.length_append, List.length_cons]
                   rw [show acc.length + 1 + (m.length + 1) = acc.length + (m.length + 1) + 1 by omega]
                 · simp only [List.cons_append, teR, teR_append])
              | (repeat' (first | (first | (simp only [go_sem, hw1, hb, hcap1]) | (((first | apply sp1 | apply sp2 | apply sp3 | apply sp4 | apply sp5 | apply sp6 | apply sp7) <;> intro hb) <;> (simp only [go_sem, hb, hw1, hb, hcap1])) | ((first | apply wm_done | apply wt_done | apply wg_run | refine fk ?_ ?_) <;> (simp only [go_sem, hw1, hb, hcap1]))) | (first | refine cdq ?_ (hc := hc) | refine cmq ?_ (hc := hc) | refine ctq ?_ (hc := hc)); (simp only [go_sem]))
                 refine hG (k + 1, b :: m) _ _ ⟨by omega, hnx.symm⟩ (by simp only []; omega) (hat [1] (hI := ⟨rfl, rfl⟩)))
        · have hk1 : t.kids.take k = t.kids := List.take_of_length_le (by have := of_decide_eq_false hb; omega)
          rw [hk1, ← Tm.castsL_eq] at hacc
          (refine hR _ (rat [] (hK := ⟨?_, rfl⟩)))
          rw [← hacc]; rfl

theorem l11Casts (n : Nat) (hn : n ≤ 274877906944) : ∀ t : Tm, t.size < n → AFn Tryz.prog 65 [.agg (teC t)] (.one (.sc (.int .i64 (t.castsL.length : Nat)))) := by
  induction n with
  | zero => intro t h; omega
  | succ n ih =>
    intro t h
    have hl := telen_lt t
    have hnl := t.nodes_le
    have hne := t.nodes_eq
    have ht : t.castsL.length = (ownCast t).length + (Tm.castsLs t.kids).length := by rw [Tm.castsL_eq, List.length_append]
    have e0 : ownCast t = (match t.kind == 14 with | true => [t] | false => []) := rfl
    have hol := ownCast_len t
    cases hty : (t.kind == 14)
    all_goals
      rw [hty] at e0
      simp only [] at e0
      refine fn_in ?_; refine acl_in Tryz.func65 rfl isfn_65 (Nat.le_of_ble_eq_true rfl) (fun R hR => ?_); rw [Tryz.results65] at hR; refine wg_run ?_; (simp only [Tryz.f65, go_sem])
      repeat' (first | (simp only [go_sem, hty]) | (((first | apply sp1 | apply sp2 | apply sp3 | apply sp4 | apply sp5 | apply sp6 | apply sp7) <;> intro hb) <;> (simp only [go_sem, hb, hty])) | ((first | apply wm_done | apply wt_done | apply wg_run | refine fk ?_ ?_) <;> (simp only [go_sem, hty])))
      refine wd_for [1, 3, 4] (fun k => [.one (.ptr 9 0 0 0), .one (.sc (.int .i64 (((ownCast t).length + (Tm.castsLs (t.kids.take k)).length : Nat) : Int))), .one (.sc (.int .i64 (k : Nat)))]) (fun k => [⟨9, 28, .mut, [teC t]⟩])
        (fun k => k ≤ t.kids.length) (fun k => t.kids.length - k) 0 (Nat.zero_le _) (hat [0] (hI := ⟨by rw [e0]; rfl, rfl⟩)) ?_
      rintro k hk G hG
      refine wg_run ?_
      (simp only [go_sem])
      ((first | apply sp1 | apply sp2 | apply sp3 | apply sp4 | apply sp5 | apply sp6 | apply sp7) <;> intro hb) <;> (simp only [go_sem, hb])
      · have hk1 : k < t.kids.length := by have := of_decide_eq_true hb; omega
        have hw1 := wrap_succ hk1 (by omega)
        have hle := Tm.castsLs_take_len t.kids (k + 1)
        have htk := Tm.castsLs_take hk1
        have htl : (Tm.castsLs (t.kids.take (k + 1))).length = (Tm.castsLs (t.kids.take k)).length + (teKid t.kids k).castsL.length := by rw [htk, List.length_append]
        have hw2 : IntKind.i64.wrap ((((ownCast t).length + (Tm.castsLs (t.kids.take k)).length : Nat) : Int) + ((teKid t.kids k).castsL.length : Int)) = (((ownCast t).length + (Tm.castsLs (t.kids.take (k + 1))).length : Nat) : Int) := by
          rw [IntWalk.i64_in _ (by omega)]; omega
        have hc := ih (by omega) (teKid t.kids k) (by have := teKid_lt hk1; omega)
        repeat' (first | (first | (simp only [go_sem, hw1, hw2, hb]) | (((first | apply sp1 | apply sp2 | apply sp3 | apply sp4 | apply sp5 | apply sp6 | apply sp7) <;> intro hb) <;> (simp only [go_sem, hb, hw1, hw2, hb])) | ((first | apply wm_done | apply wt_done | apply wg_run | refine fk ?_ ?_) <;> (simp only [go_sem, hw1, hw2, hb]))) | (first | refine cdq ?_ (hc := hc) | refine cmq ?_ (hc := hc) | refine ctq ?_ (hc := hc)); (simp only [go_sem]) | ((first | refine mxq6 [] ?_ | refine mxq5 [] ?_ | refine mxq4 [] ?_ | refine mxq3 [] ?_ | refine mxq2 [] ?_ | refine mxq1 [] ?_ | refine mxq0 [] ?_ | fail); (simp only [go_sem, hb])))
        exact hG (k + 1) _ _ (by omega) (by omega) (hat [0] (hI := ⟨rfl, rfl⟩))
      · have hk1 : t.kids.take k = t.kids := List.take_of_length_le (by have := of_decide_eq_false hb; omega)
        rw [hk1, ← ht]
        (refine hR _ (rat [] (hK := ⟨rfl, rfl⟩)))
theorem iCountCasts (t : Tm) (h : t.size < 100000000) : AFn Tryz.prog 26 [.agg (teC t)] (.one (.sc (.int .i64 (t.castN : Nat)))) := by
  have hv := iCastV t
  have hc := iCasts 100000000 (by omega) t h
  unfold Tm.castN
  cases hb : t.castV
  all_goals
    rw [hb] at hv
    refine fn_in ?_; refine acl_in Tryz.func26 rfl isfn_26 (Nat.le_of_ble_eq_true rfl) (fun R hR => ?_); rw [Tryz.results26] at hR; refine wg_run ?_; (simp only [Tryz.f26, go_sem])
    repeat' (first | (first | (((first | apply sp1 | apply sp2 | apply sp3 | apply sp4 | apply sp5 | apply sp6 | apply sp7) <;> intro hb) <;> (simp only [go_sem, hb])) | ((first | apply wm_done | apply wt_done | apply wg_run | refine fk ?_ ?_) <;> (simp only [go_sem]))) | (first | refine cdq ?_ (hc := hv) | refine cmq ?_ (hc := hv) | refine ctq ?_ (hc := hv)); (simp only [go_sem]) | (first | refine cdq ?_ (hc := hc) | refine cmq ?_ (hc := hc) | refine ctq ?_ (hc := hc)); (simp only [go_sem]))
    (refine hR _ (rat [] (hK := ⟨?_, rfl⟩)))
    rfl
theorem sCountCasts (t : Tm) (h : t.size < 100000000) : AFn Tryz.prog 27 [.agg (teC t)] (.one (.sc (.int .i64 (t.castN : Nat)))) := by
  have hv := sCastV t (by omega)
  have hc := l11Casts 100000000 (by omega) t h
  unfold Tm.castN
  cases hb : t.castV
  all_goals
    rw [hb] at hv
    refine fn_in ?_; refine acl_in Tryz.func27 rfl isfn_27 (Nat.le_of_ble_eq_true rfl) (fun R hR => ?_); rw [Tryz.results27] at hR; refine wg_run ?_; (simp only [Tryz.f27, go_sem])
    repeat' (first | (first | (((first | apply sp1 | apply sp2 | apply sp3 | apply sp4 | apply sp5 | apply sp6 | apply sp7) <;> intro hb) <;> (simp only [go_sem, hb])) | ((first | apply wm_done | apply wt_done | apply wg_run | refine fk ?_ ?_) <;> (simp only [go_sem]))) | (first | refine cdq ?_ (hc := hv) | refine cmq ?_ (hc := hv) | refine ctq ?_ (hc := hv)); (simp only [go_sem]) | (first | refine cdq ?_ (hc := hc) | refine cmq ?_ (hc := hc) | refine ctq ?_ (hc := hc)); (simp only [go_sem]))
    (refine hR _ (rat [] (hK := ⟨?_, rfl⟩)))
    rfl
end Go.Proofs.YtnaebafafhamjaaGreat
/- Steps of terms with casts. No program, no world. -/
namespace Go.Proofs.Grad
/-- v in place of x -/
def E.subst : E → UInt8 → E → E
  | .var y, x, v => match y == x with | true => v | false => .var y
  | .lam y t a, x, v => match y == x with | true => .lam y t a | false => .lam y t (a.subst x v)
  | .num n, x, v => .num n
  | .tru, x, v => .tru
  | .fls, x, v => .fls
  | .app a b, x, v => .app (a.subst x v) (b.subst x v)
  | .add a b, x, v => .add (a.subst x v) (b.subst x v)
  | .less a b, x, v => .less (a.subst x v) (b.subst x v)
  | .ite a b c, x, v => .ite (a.subst x v) (b.subst x v) (c.subst x v)
  | .pair a b, x, v => .pair (a.subst x v) (b.subst x v)
  | .fst a, x, v => .fst (a.subst x v)
  | .snd a, x, v => .snd (a.subst x v)
  | .asc t a, x, v => .asc t (a.subst x v)
  | .cast s t l a, x, v => .cast s t l (a.subst x v)
def T.isFn : T → Bool | .fn _ _ => true | _ => false
def T.isPr : T → Bool | .pr _ _ => true | _ => false
/-- a ground type -/
def T.isG : T → Bool | .any => false | .fn .any .any => true | .fn _ _ => false | .pr .any .any => true | .pr _ _ => false | _ => true
def proxyT (s t : T) : Bool := (s.isFn && t.isFn) || (s.isPr && t.isPr)
def injT (s t : T) : Bool := (t.ty.kind == 1) && s.isG
def E.val : E → Bool
  | .num _ | .tru | .fls | .lam _ _ _ => true
  | .pair a b => a.val && b.val
  | .cast s t _ a => (proxyT s t || injT s t) && a.val
  | _ => false
/-- what a step makes -/
inductive SR where
  | took (e : E) | blame (l : Int) | stuck
def SR.code : SR → Int | .took _ => 1 | .blame _ => 2 | .stuck => 3
def SR.lab : SR → Int | .blame l => l | _ => 0
def SR.map (f : E → E) : SR → SR | .took e => .took (f e) | .blame l => .blame l | .stuck => .stuck
def ruleApp : E → E → SR
  | .lam x _ b, v => .took (b.subst x v)
  | .cast (.fn s1 s2) (.fn t1 t2) l f, v => .took (.cast s2 t2 l (.app f (.cast t1 s1 (-l) v)))
  | _, _ => .stuck
def ruleAdd : E → E → SR
  | .num n, .num m => .took (.num ((n + m).tmod 1000))
  | _, _ => .stuck
def ruleLess : E → E → SR
  | .num n, .num m => match decide (n < m) with | true => .took .tru | false => .took .fls
  | _, _ => .stuck
def ruleIte : E → E → E → SR
  | .tru, b, _ => .took b
  | .fls, _, c => .took c
  | _, _, _ => .stuck
def ruleFst : E → SR
  | .pair a _ => .took a
  | .cast (.pr s1 _) (.pr t1 _) l v => .took (.cast s1 t1 l (.fst v))
  | _ => .stuck
def ruleSnd : E → SR
  | .pair _ b => .took b
  | .cast (.pr _ s2) (.pr _ t2) l v => .took (.cast s2 t2 l (.snd v))
  | _ => .stuck
/-- the type g, of which there is an injection below, and the type t: the same, or not -/
def ruleOut (t : T) (l : Int) : E → SR
  | .cast s' t' _ w => match injT s' t' with | true => (match s'.ty.kind == t.ty.kind with | true => .took w | false => .blame l) | false => .stuck
  | _ => .stuck
def ruleCast (s t : T) (l : Int) (v : E) : SR :=
  match s.ty.kind == t.ty.kind with
  | true => .took v
  | false => match t.ty.kind == 1 with
    | true => .took (.cast s.ground .any l (.cast s s.ground l v))
    | false => match t.isG with
      | false => .took (.cast t.ground t l (.cast s t.ground l v))
      | true => ruleOut t l v
/-- a step of a term with casts that is no value -/
def E.step : E → SR
  | .app a b => match a.val with | false => a.step.map (.app · b) | true => (match b.val with | false => b.step.map (.app a ·) | true => ruleApp a b)
  | .add a b => match a.val with | false => a.step.map (.add · b) | true => (match b.val with | false => b.step.map (.add a ·) | true => ruleAdd a b)
  | .less a b => match a.val with | false => a.step.map (.less · b) | true => (match b.val with | false => b.step.map (.less a ·) | true => ruleLess a b)
  | .ite a b c => match a.val with | false => a.step.map (.ite · b c) | true => ruleIte a b c
  | .pair a b => match a.val with | false => a.step.map (.pair · b) | true => (match b.val with | false => b.step.map (.pair a ·) | true => .stuck)
  | .fst a => match a.val with | false => a.step.map .fst | true => ruleFst a
  | .snd a => match a.val with | false => a.step.map .snd | true => ruleSnd a
  | .cast s t l a => match a.val with | false => a.step.map (.cast s t l) | true => ruleCast s t l a
  | _ => .stuck
/-! what steps keep -/
theorem E.subst_wf {x : UInt8} {v : E} (hv : v.wf = true) : ∀ e : E, e.wf = true → (e.subst x v).wf = true := by
  intro e
  induction e with
  | var y => intro h; simp only [E.subst]; split <;> assumption
  | lam y t a ih => intro h; simp only [E.subst]; split <;> simp_all [E.wf]
  | _ => intro h; simp_all [E.subst, E.wf]
theorem E.subst_noA {x : UInt8} {v : E} (hv : v.noA = true) : ∀ e : E, e.noA = true → (e.subst x v).noA = true := by
  intro e
  induction e with
  | var y => intro h; simp only [E.subst]; split <;> assumption
  | lam y t a ih => intro h; simp only [E.subst]; split <;> simp_all [E.noA]
  | _ => intro h; simp_all [E.subst, E.noA]
theorem T.cons_any' (a : T) : a.cons .any = true := by cases a <;> rfl
theorem T.cons_comm (a : T) : ∀ b : T, a.cons b = b.cons a := by
  induction a with
  | fn a1 a2 ih1 ih2 | pr a1 a2 ih1 ih2 => intro b; cases b <;> simp [T.cons, *]
  | _ => intro b; cases b <;> rfl
theorem lab_neg' {l : Int} (h : lab l = true) : lab (-l) = true := by
  simp [lab] at *; omega
theorem lab_bd2 {l : Int} (h : lab l = true) : -99 ≤ l ∧ l ≤ 99 := by simp [lab] at h; omega
theorem T.ground_cons (t : T) : t.cons t.ground = true := by cases t <;> simp [T.ground, T.cons, T.cons_any']
theorem T.ground_depth (t : T) : t.ground.depth ≤ t.depth := by
  have hp : ∀ x : T, 1 ≤ x.depth := fun x => by cases x <;> simp [T.depth]
  cases t with
  | fn a b | pr a b => have := hp a; simp only [T.ground, T.depth]; omega
  | _ => exact Nat.le_refl _
def SR.ok : SR → Bool | .took e => e.wf && e.noA | .blame l => Grad.lab l | .stuck => true
theorem SR.map_ok {r : SR} {f : E → E} (h : r.ok = true) (hf : ∀ e, e.wf = true → e.noA = true → (f e).wf = true ∧ (f e).noA = true) : (r.map f).ok = true := by
  cases r with
  | took e => simp only [SR.ok, Bool.and_eq_true, SR.map] at h ⊢; exact hf e h.1 h.2
  | _ => exact h
theorem ruleApp_ok {a b : E} (ha : a.wf = true) (na : a.noA = true) (hb : b.wf = true) (nb : b.noA = true) : (ruleApp a b).ok = true := by
  cases a with
  | lam x t c =>
    simp only [E.wf, E.noA, Bool.and_eq_true] at ha na
    simp only [ruleApp, SR.ok, Bool.and_eq_true]
    exact ⟨E.subst_wf hb _ ha.2.2, E.subst_noA nb _ na⟩
  | cast s t l f =>
    cases s <;> cases t <;> try rfl
    rename_i s1 s2 t1 t2
    simp only [E.wf, E.noA, T.cons, Bool.and_eq_true, decide_eq_true_eq] at ha na
    obtain ⟨⟨d1, d2⟩, ⟨c1, c2⟩, hl, hf⟩ := ha
    simp only [T.depth] at d1 d2
    simp only [ruleApp, SR.ok, E.wf, E.noA, Bool.and_eq_true, decide_eq_true_eq]
    exact ⟨⟨⟨by omega, by omega⟩, c2, hl, hf, ⟨by omega, by omega⟩, by rw [T.cons_comm]; exact c1, lab_neg' hl, hb⟩, na, nb⟩
  | _ => rfl
theorem ruleAdd_ok {a b : E} (ha : a.wf = true) (hb : b.wf = true) : (ruleAdd a b).ok = true := by
  cases a with
  | num n =>
    cases b with
    | num m =>
      simp only [E.wf, Bool.and_eq_true, decide_eq_true_eq] at ha hb
      simp only [ruleAdd, SR.ok, E.wf, E.noA, Bool.and_eq_true, decide_eq_true_eq]
      have := Int.tmod_lt_of_pos (n + m) (b := 1000) (by omega)
      have := Int.tmod_nonneg 1000 (a := n + m) (by omega)
      exact ⟨⟨by omega, by omega⟩, trivial⟩
    | _ => rfl
  | _ => rfl
theorem ruleLess_ok (a b : E) : (ruleLess a b).ok = true := by
  cases a with
  | num n =>
    cases b with
    | num m => simp only [ruleLess]; split <;> rfl
    | _ => rfl
  | _ => rfl
theorem ruleIte_ok {a b c : E} (hb : b.wf = true) (nb : b.noA = true) (hc : c.wf = true) (nc : c.noA = true) : (ruleIte a b c).ok = true := by
  cases a <;> simp [ruleIte, SR.ok, *]
theorem ruleFst_ok {a : E} (ha : a.wf = true) (na : a.noA = true) : (ruleFst a).ok = true := by
  cases a with
  | pair x y => simp only [E.wf, E.noA, Bool.and_eq_true] at ha na; simp [ruleFst, SR.ok, *]
  | cast s t l f =>
    cases s <;> cases t <;> try rfl
    rename_i s1 s2 t1 t2
    simp only [E.wf, E.noA, T.cons, Bool.and_eq_true, decide_eq_true_eq] at ha na
    obtain ⟨⟨d1, d2⟩, ⟨c1, c2⟩, hl, hf⟩ := ha
    simp only [T.depth] at d1 d2
    simp only [ruleFst, SR.ok, E.wf, E.noA, Bool.and_eq_true, decide_eq_true_eq]
    exact ⟨⟨⟨by omega, by omega⟩, c1, hl, hf⟩, na⟩
  | _ => rfl
theorem ruleSnd_ok {a : E} (ha : a.wf = true) (na : a.noA = true) : (ruleSnd a).ok = true := by
  cases a with
  | pair x y => simp only [E.wf, E.noA, Bool.and_eq_true] at ha na; simp [ruleSnd, SR.ok, *]
  | cast s t l f =>
    cases s <;> cases t <;> try rfl
    rename_i s1 s2 t1 t2
    simp only [E.wf, E.noA, T.cons, Bool.and_eq_true, decide_eq_true_eq] at ha na
    obtain ⟨⟨d1, d2⟩, ⟨c1, c2⟩, hl, hf⟩ := ha
    simp only [T.depth] at d1 d2
    simp only [ruleSnd, SR.ok, E.wf, E.noA, Bool.and_eq_true, decide_eq_true_eq]
    exact ⟨⟨⟨by omega, by omega⟩, c2, hl, hf⟩, na⟩
  | _ => rfl
theorem cons_kind {s t : T} (h1 : (s.ty.kind == t.ty.kind) = false) (h2 : (t.ty.kind == 1) = false) (hc : s.cons t = true) : s = .any := by
  cases s <;> cases t <;> simp_all [T.ty, Ty.kind, T.cons]
theorem kind_one {t : T} (h : (t.ty.kind == 1) = true) : t = .any := by
  cases t <;> simp_all [T.ty, Ty.kind]
theorem ruleCast_ok {s t : T} {l : Int} {a : E} (h1 : (E.cast s t l a).wf = true) (h2 : a.noA = true) : (ruleCast s t l a).ok = true := by
  simp only [E.wf, Bool.and_eq_true, decide_eq_true_eq] at h1
  obtain ⟨⟨ds, dt⟩, hc, hl, ha⟩ := h1
  unfold ruleCast
  cases e1 : (s.ty.kind == t.ty.kind)
  · cases e2 : (t.ty.kind == 1)
    · have hs := cons_kind e1 e2 hc
      subst hs
      cases e3 : t.isG
      · have hg := T.ground_cons t
        have hd := T.ground_depth t
        simp only [SR.ok, E.wf, E.noA, Bool.and_eq_true, decide_eq_true_eq]
        exact ⟨⟨⟨by omega, by omega⟩, by rw [T.cons_comm]; exact hg, hl, ⟨by omega, by omega⟩, by rw [T.cons_comm]; exact T.cons_any' _, hl, ha⟩, h2⟩
      · simp only []
        unfold ruleOut
        cases a with
        | cast s' t' l' w =>
          simp only [E.wf, E.noA, Bool.and_eq_true, decide_eq_true_eq] at ha h2
          simp only []
          cases injT s' t'
          · rfl
          · simp only []
            cases (s'.ty.kind == t.ty.kind)
            · exact hl
            · simp only [SR.ok, Bool.and_eq_true]; exact ⟨ha.2.2.2, h2⟩
        | _ => rfl
    · have hg := T.ground_cons s
      have hd := T.ground_depth s
      simp only [SR.ok, E.wf, E.noA, Bool.and_eq_true, decide_eq_true_eq]
      exact ⟨⟨⟨by omega, by simp [T.depth]⟩, T.cons_any' _, hl, ⟨by omega, by omega⟩, hg, hl, ha⟩, h2⟩
  · simp only [SR.ok, Bool.and_eq_true]; exact ⟨ha, h2⟩
theorem E.step_ok (e : E) : e.wf = true → e.noA = true → e.step.ok = true := by
  induction e with
  | app a b iha ihb =>
    intro h1 h2
    simp only [E.wf, E.noA, Bool.and_eq_true] at h1 h2
    simp only [E.step]
    split
    · exact SR.map_ok (iha h1.1 h2.1) fun e a1 a2 => by simp [E.wf, E.noA, *]
    · split
      · exact SR.map_ok (ihb h1.2 h2.2) fun e a1 a2 => by simp [E.wf, E.noA, *]
      · exact ruleApp_ok h1.1 h2.1 h1.2 h2.2
  | add a b iha ihb =>
    intro h1 h2
    simp only [E.wf, E.noA, Bool.and_eq_true] at h1 h2
    simp only [E.step]
    split
    · exact SR.map_ok (iha h1.1 h2.1) fun e a1 a2 => by simp [E.wf, E.noA, *]
    · split
      · exact SR.map_ok (ihb h1.2 h2.2) fun e a1 a2 => by simp [E.wf, E.noA, *]
      · exact ruleAdd_ok h1.1 h1.2
  | less a b iha ihb =>
    intro h1 h2
    simp only [E.wf, E.noA, Bool.and_eq_true] at h1 h2
    simp only [E.step]
    split
    · exact SR.map_ok (iha h1.1 h2.1) fun e a1 a2 => by simp [E.wf, E.noA, *]
    · split
      · exact SR.map_ok (ihb h1.2 h2.2) fun e a1 a2 => by simp [E.wf, E.noA, *]
      · exact ruleLess_ok _ _
  | pair a b iha ihb =>
    intro h1 h2
    simp only [E.wf, E.noA, Bool.and_eq_true] at h1 h2
    simp only [E.step]
    split
    · exact SR.map_ok (iha h1.1 h2.1) fun e a1 a2 => by simp [E.wf, E.noA, *]
    · split
      · exact SR.map_ok (ihb h1.2 h2.2) fun e a1 a2 => by simp [E.wf, E.noA, *]
      · rfl
  | ite a b c iha ihb ihc =>
    intro h1 h2
    simp only [E.wf, E.noA, Bool.and_eq_true] at h1 h2
    simp only [E.step]
    split
    · exact SR.map_ok (iha h1.1 h2.1) fun e a1 a2 => by simp [E.wf, E.noA, *]
    · exact ruleIte_ok h1.2.1 h2.2.1 h1.2.2 h2.2.2
  | fst a ih =>
    intro h1 h2
    simp only [E.wf, E.noA] at h1 h2
    simp only [E.step]
    split
    · exact SR.map_ok (ih h1 h2) fun e a1 a2 => by simp [E.wf, E.noA, *]
    · exact ruleFst_ok h1 h2
  | snd a ih =>
    intro h1 h2
    simp only [E.wf, E.noA] at h1 h2
    simp only [E.step]
    split
    · exact SR.map_ok (ih h1 h2) fun e a1 a2 => by simp [E.wf, E.noA, *]
    · exact ruleSnd_ok h1 h2
  | cast s t l a ih =>
    intro h1 h2
    have h1' := h1
    simp only [E.wf, E.noA, Bool.and_eq_true, decide_eq_true_eq] at h1 h2
    simp only [E.step]
    split
    · exact SR.map_ok (ih h1.2.2.2 h2) fun e a1 a2 => by simp [E.wf, E.noA, *]
    · exact ruleCast_ok h1' h2
  | _ => intro _ _; rfl
/-! the rules, as the program has them -/
def E.ruleI : E → Option E
  | .app (.lam x _ b) v => some (b.subst x v)
  | .add (.num n) (.num m) => some (.num ((n + m).tmod 1000))
  | .less (.num n) (.num m) => some (match decide (n < m) with | true => .tru | false => .fls)
  | .ite .tru b _ => some b
  | .ite .fls _ c => some c
  | .fst (.pair a _) => some a
  | .snd (.pair _ b) => some b
  | _ => none
def E.castR : E → SR
  | .app (.cast (.fn s1 s2) (.fn t1 t2) l f) v => .took (.cast s2 t2 l (.app f (.cast t1 s1 (-l) v)))
  | .fst (.cast (.pr s1 _) (.pr t1 _) l v) => .took (.cast s1 t1 l (.fst v))
  | .snd (.cast (.pr _ s2) (.pr _ t2) l v) => .took (.cast s2 t2 l (.snd v))
  | .cast s t l v => ruleCast s t l v
  | _ => .stuck
def E.red (e : E) : SR := match e.ruleI with | some x => .took x | none => e.castR
theorem red_app (a b : E) : (E.app a b).red = ruleApp a b := by
  cases a with
  | cast s t l f => cases s <;> cases t <;> rfl
  | _ => rfl
theorem red_add (a b : E) : (E.add a b).red = ruleAdd a b := by
  cases a <;> cases b <;> rfl
theorem red_less (a b : E) : (E.less a b).red = ruleLess a b := by
  cases a <;> cases b <;> first | rfl | (simp only [E.red, E.ruleI, ruleLess]; split <;> rfl)
theorem red_ite (a b c : E) : (E.ite a b c).red = ruleIte a b c := by cases a <;> rfl
theorem red_fst (a : E) : (E.fst a).red = ruleFst a := by
  cases a with
  | cast s t l f => cases s <;> cases t <;> rfl
  | _ => rfl
theorem red_snd (a : E) : (E.snd a).red = ruleSnd a := by
  cases a with
  | cast s t l f => cases s <;> cases t <;> rfl
  | _ => rfl
theorem red_cast (s t : T) (l : Int) (a : E) : (E.cast s t l a).red = ruleCast s t l a := rfl
/-- the zero term -/
def tm0 : Tm := .mk 0 ByteArray.empty 0 noTy noTy 0 []
def SR.tm : SR → Tm | .took e => e.tm | _ => tm0
end Go.Proofs.Grad
